/- RulesBroken, plain: what the rules say of a row and the next one, on both sides; the first rule that does not hold. No program in sight. RulesBroken, plain: all rules of a row and the next one; what comes to the first that does not hold. No program in sight. RulesBroken: the program's side: what a rule is asked of. -/
import Derived.Test.YtnmjaddhbecopaaGreatDoorM1
import Derived.Test.YtnmjaddhbecopaaGreatDoorVc
import Derived.Test.YtnmjaddhbecopaaGreatDoorZx14
import Derived.Test.YtnmjaddhbecopaaGreatDoorFa
import Derived.BigQuiet
import Derived.IntWalk
section
namespace Go.Att
section
variable (p : Int) (r n : List Int)
/-- The cells of an instruction, as the program lists them. -/
def cellsK (x : In4) : List Int :=
  if x.op = 1 ∨ x.op = 2 ∨ x.op = 3 ∨ x.op = 4 ∨ x.op = 6 then [fadd p (nth r 0) x.a, fadd p (nth r 0) x.b, fadd p (nth r 0) x.c]
  else if x.op = 5 ∨ x.op = 9 ∨ x.op = 12 ∨ x.op = 0 then [fadd p (nth r 0) x.a]
  else if x.op = 7 then [fadd p (nth r 0) x.a, fadd p (nth r 0) x.b]
  else if x.op = 10 then [nth r 1, fadd p (nth r 1) 1]
  else if x.op = 11 then [fsub p (nth r 0) 2, fsub p (nth r 0) 1, fadd p (nth r 0) x.a]
  else if x.op = 13 then [fadd p (nth r 0) x.a, fadd p (fadd p (nth r 1) 2) x.b]
  else []
def cellK (j : Nat) (_ : Nat) (x : In4) : Int := (cellsK p r x).getD j 0
def threeB (op : Int) : Bool := op == 1 || op == 2 || op == 3 || op == 4 || op == 6
def twoC (op : Int) : Bool := threeB op || op == 7
def oneB (op : Int) : Bool := twoC op || op == 5 || op == 9 || op == 12 || op == 0 || op == 13
/-- A cell of an instruction, as the document has it. -/
def cellD (j : Nat) (_ : Nat) (x : In4) : Int :=
  if (oneB x.op = true ∧ j = 0) ∨ (x.op = 11 ∧ j = 2) then fadd p (nth r 0) x.a
  else if twoC x.op = true ∧ j = 1 then fadd p (nth r 0) x.b
  else if threeB x.op = true ∧ j = 2 then fadd p (nth r 0) x.c
  else if x.op = 13 ∧ j = 1 then fadd p (fadd p (nth r 1) 2) x.b
  else if x.op = 10 ∧ j < 2 then fadd p (nth r 1) j
  else if x.op = 11 then fadd p (nth r 0) (j - 2)
  else 0
/-- What an instruction does. -/
def doesK (_ : Nat) (x : In4) : Int :=
  if x.op = 1 then fsub p (fadd p (nth r 7) (nth r 8)) (nth r 9)
  else if x.op = 2 then fsub p (fsub p (nth r 7) (nth r 8)) (nth r 9)
  else if x.op = 3 then fsub p (fmul p (nth r 7) (nth r 8)) (nth r 9)
  else if x.op = 4 then fsub p (fmul p (nth r 9) (nth r 8)) (nth r 7)
  else if x.op = 5 then fsub p (nth r 7) x.b
  else if x.op = 6 then fsub p (fmul p (fsub p (nth r 7) (nth r 8)) (nth r 11)) (fsub p 1 (nth r 9))
  else if x.op = 7 ∨ x.op = 13 then fsub p (nth r 7) (nth r 8)
  else if x.op = 9 then fmul p (nth r 7) (fsub p 1 (fmul p (nth r 11) (nth r 7)))
  else if x.op = 10 then fsub p (nth r 7) (nth r 0)
  else if x.op = 12 then fsub p (nth r 7) (nth r 2)
  else if x.op = 0 ∨ x.op = 8 ∨ x.op = 11 then 0
  else 1
/-- What else it does. -/
def moreK (k : Nat) (x : In4) : Int :=
  if x.op = 4 then fsub p (fmul p (nth r 11) (nth r 8)) 1
  else if x.op = 6 then fmul p (nth r 9) (fsub p (nth r 7) (nth r 8))
  else if x.op = 10 then fsub p (nth r 8) (k + 1)
  else 0
/-- Which is next: the program's, the document's. -/
def goesK (k : Nat) (x : In4) : Int :=
  if x.op = 0 then k
  else if x.op = 8 ∨ x.op = 10 then fof p x.a
  else if x.op = 9 then fadd p (fmul p (fsub p 1 (fmul p (nth r 11) (nth r 7))) x.b) (fmul p (fmul p (nth r 11) (nth r 7)) (k + 1))
  else if x.op = 11 then nth r 8
  else k + 1
def goesD (k : Nat) (x : In4) : Int :=
  if x.op = 0 then k
  else if x.op = 8 ∨ x.op = 10 then x.a
  else if x.op = 9 then fadd p (fmul p (fmul p (nth r 11) (nth r 7)) (k + 1)) (fmul p (fsub p 1 (fmul p (nth r 11) (nth r 7))) x.b)
  else if x.op = 11 then nth r 8
  else k + 1
/-- What the registers become. -/
def fpK (_ : Nat) (x : In4) : Int := if x.op = 10 then fadd p (nth r 1) 2 else if x.op = 11 then nth r 7 else nth r 0
def apK (_ : Nat) (x : In4) : Int := if x.op = 10 then fadd p (fadd p (nth r 1) 2) x.b else nth r 1
def rvK (_ : Nat) (x : In4) : Int := if x.op = 11 then nth r 9 else nth r 2
def oneK (_ : Nat) (_ : In4) : Int := 1
def haltK (_ : Nat) (x : In4) : Int := if x.op = 0 then 1 else 0
/-- A sum over the first instructions, each times its s. -/
def sumK (cd : List In4) (g : Nat → In4 → Int) : Nat → Int
  | 0 => 0
  | k + 1 => fadd p (sumK cd g k) (fmul p (nth r (20 + k)) (g k (nthI cd k)))
def sumD (cd : List In4) (g : Nat → In4 → Int) : Nat → Int
  | 0 => 0
  | k + 1 => fadd p (sumD cd g k) (fmul p (g k (nthI cd k)) (nth r (20 + k)))
/-- The number of the next row's instruction. -/
def numK : Nat → Int
  | 0 => 0
  | k + 1 => fadd p (numK k) (fmul p k (nth n (20 + k)))
/-- The sum of all s, less 1, as the document has it. -/
def onesD : Nat → Int
  | 0 => -1
  | k + 1 => fadd p (onesD k) (nth r (20 + k))
def ordK (b w c x : Int) : List Int := [fmul p (fsub p c b) (fsub p (fsub p c b) 1), fmul p (fsub p (fsub p c b) 1) (fsub p x w)]
end
section
variable {p : Int} {r : List Int}
theorem fmul_comm (a b : Int) : fmul p a b = fmul p b a := by unfold fmul; rw [Int.mul_comm]
theorem fadd_comm (a b : Int) : fadd p a b = fadd p b a := by unfold fadd; rw [Int.add_comm]
theorem fmul_mod {a b : Int} (c : Int) (h : a % p = b % p) : fmul p a c = fmul p c b := by
  unfold fmul; rw [Int.mul_comm c b, Int.mul_emod, h, ← Int.mul_emod]
theorem sum_same (cd : List In4) {g h : Nat → In4 → Int} (e : ∀ k x, g k x % p = h k x % p) (m : Nat) : sumD p r cd g m = sumK p r cd h m := by
  induction m with
  | zero => rfl
  | succ k ih => rw [sumD, sumK, ih, fmul_mod _ (e _ _)]
theorem cell_same (j : Nat) (hj : j < 3) (k : Nat) (x : In4) : cellD p r j k x % p = cellK p r j k x % p := by
  unfold cellD cellK cellsK oneB twoC threeB
  have hall : x.op = 1 ∨ x.op = 2 ∨ x.op = 3 ∨ x.op = 4 ∨ x.op = 6 ∨ x.op = 5 ∨ x.op = 9 ∨ x.op = 12 ∨ x.op = 0 ∨ x.op = 7 ∨ x.op = 10 ∨ x.op = 11 ∨ x.op = 13 ∨ (x.op ≠ 1 ∧ x.op ≠ 2 ∧ x.op ≠ 3 ∧ x.op ≠ 4 ∧ x.op ≠ 6 ∧ x.op ≠ 5 ∧ x.op ≠ 9 ∧ x.op ≠ 12 ∧ x.op ≠ 0 ∧ x.op ≠ 7 ∧ x.op ≠ 10 ∧ x.op ≠ 11 ∧ x.op ≠ 13) := by omega
  have hj3 : j = 0 ∨ j = 1 ∨ j = 2 := by omega
  rcases hj3 with rfl | rfl | rfl <;> rcases hall with h | h | h | h | h | h | h | h | h | h | h | h | h | h <;> simp [h, fadd, fsub, Int.sub_eq_add_neg]
theorem goes_same (k : Nat) (x : In4) : goesD p r k x % p = goesK p r k x % p := by
  unfold goesD goesK
  by_cases h1 : x.op = 0 <;> by_cases h2 : x.op = 8 ∨ x.op = 10 <;> by_cases h3 : x.op = 9 <;> by_cases h4 : x.op = 11 <;> first | (exfalso; omega) | simp [*, fof, fadd_comm]
end
/-- The first of what is bad among what is seen: the least rule, and its first row. -/
def FstBad (bad : Nat → Nat → Bool) (seen : Nat → Nat → Prop) : Option (Nat × Nat) → Prop
  | none => ∀ k i, seen k i → bad k i = false
  | some (k, i) => seen k i ∧ bad k i = true ∧ (∀ k' i', seen k' i' → k' < k → bad k' i' = false) ∧ ∀ i', seen k i' → i' < i → bad k i' = false
theorem FstBad.one {bad : Nat → Nat → Bool} {seen : Nat → Nat → Prop} {a b : Option (Nat × Nat)} (ha : FstBad bad seen a) (hb : FstBad bad seen b) : a = b := by
  cases a with
  | none => cases b with
    | none => rfl
    | some b => have := ha b.1 b.2 hb.1; rw [hb.2.1] at this; cases this
  | some a => cases b with
    | none => have := hb a.1 a.2 ha.1; rw [ha.2.1] at this; cases this
    | some b =>
      obtain ⟨k, i⟩ := a; obtain ⟨k', i'⟩ := b
      obtain ⟨a1, a2, a3, a4⟩ := ha
      obtain ⟨b1, b2, b3, b4⟩ := hb
      have e : k = k' := by
        rcases Nat.lt_trichotomy k k' with h | h | h
        · have := b3 k i a1 h; rw [a2] at this; cases this
        · exact h
        · have := a3 k' i' b1 h; rw [b2] at this; cases this
      subst e
      have e2 : i = i' := by
        rcases Nat.lt_trichotomy i i' with h | h | h
        · have := b4 i a1 h; rw [a2] at this; cases this
        · exact h
        · have := a4 i' b1 h; rw [b2] at this; cases this
      rw [e2]
/-- One more is looked at, which lies behind all rows of its rule that are seen. -/
def lookB (bad : Nat → Nat → Bool) (o : Option (Nat × Nat)) (k i : Nat) : Option (Nat × Nat) :=
  if bad k i = true ∧ (∀ q, o = some q → k < q.1) then some (k, i) else o
theorem FstBad.look {bad : Nat → Nat → Bool} {seen : Nat → Nat → Prop} {o : Option (Nat × Nat)} {k i : Nat} (h : FstBad bad seen o) (hl : ∀ i', seen k i' → i' < i) : FstBad bad (fun a b => seen a b ∨ (a = k ∧ b = i)) (lookB bad o k i) := by
  unfold lookB
  split
  · rename_i hc
    refine ⟨.inr ⟨rfl, rfl⟩, hc.1, ?_, ?_⟩
    · rintro k' i' (hs | ⟨rfl, rfl⟩) hk
      · cases o with
        | none => exact h _ _ hs
        | some q => exact h.2.2.1 _ _ hs (Nat.lt_trans hk (hc.2 q rfl))
      · omega
    · rintro i' (hs | ⟨_, rfl⟩) hi
      · cases o with
        | none => exact h _ _ hs
        | some q => exact h.2.2.1 _ _ hs (hc.2 q rfl)
      · omega
  · rename_i hc
    cases o with
    | none =>
      rintro a b (hs | ⟨rfl, rfl⟩)
      · exact h _ _ hs
      · cases hb : bad a b with
        | false => rfl
        | true => exact absurd ⟨hb, by rintro q hq; cases hq⟩ hc
    | some q =>
      obtain ⟨a, b⟩ := q
      refine ⟨.inl h.1, h.2.1, ?_, ?_⟩
      · rintro k' i' (hs | ⟨rfl, rfl⟩) hk
        · exact h.2.2.1 _ _ hs hk
        · cases hb : bad k' i' with
          | false => rfl
          | true => exact absurd ⟨hb, by rintro q hq; cases hq; exact hk⟩ hc
      · rintro i' (hs | ⟨rfl, rfl⟩) hi
        · exact h.2.2.2 _ hs hi
        · have := hl b h.1; omega
end Go.Att
end
section
namespace Go.Att
section
variable (p sz out : Int) (cd : List In4) (r n : List Int)
def headK : List Int := (List.range cd.length).map fun k => fsub p (fmul p (nth r (20 + k)) (nth r (20 + k))) (nth r (20 + k))
def tailK : List Int :=
  [fsub p (sumK p r cd oneK cd.length) 1,
   fsub p (nth r 3) (sumK p r cd (cellK p r 0) cd.length), fsub p (nth r 4) (sumK p r cd (cellK p r 1) cd.length), fsub p (nth r 5) (sumK p r cd (cellK p r 2) cd.length),
   sumK p r cd (doesK p r) cd.length, sumK p r cd (moreK p r) cd.length] ++
  ordK p (nth r 12) (nth r 16) (nth r 13) (nth r 17) ++ ordK p (nth r 13) (nth r 17) (nth r 14) (nth r 18) ++ ordK p (nth r 14) (nth r 18) (nth r 15) (nth r 19) ++
  [fsub p (numK p n cd.length) (sumK p r cd (goesK p r) cd.length)] ++
  [fsub p (nth n 0) (sumK p r cd (fpK p r) cd.length), fsub p (nth n 1) (sumK p r cd (apK p r) cd.length), fsub p (nth n 2) (sumK p r cd (rvK r) cd.length)] ++
  ordK p (nth r 15) (nth r 19) (nth n 12) (nth n 16) ++
  [fsub p (nth r 20) 1, fsub p (nth r 0) 1, fsub p (fsub p (nth r 1) 1) sz, fof p (nth r 2), fof p (nth r 12), fof p (nth r 16)] ++
  [fsub p (sumK p r cd haltK cd.length) 1, fsub p (nth r 7) out]
/-- What the rules say of a row and the next one, as the program lists it. -/
def rulesK : List Int := headK p cd r ++ tailK p sz out cd r n
/-- The order's rules, as the document has them. -/
def ordD (a v b u : Int) (second : Bool) : Int := if second = true then fmul p (fsub p (fsub p b a) 1) (fsub p u v) else fmul p (fsub p b a) (fsub p (fsub p b a) 1)
/-- What the rules behind the instructions' say, as the document has it. -/
def tailD (i : Nat) : Int :=
  if i = 0 then fof p (onesD p r cd.length)
  else if i < 4 then fsub p (nth r (2 + i)) (sumD p r cd (cellD p r (i - 1)) cd.length)
  else if i = 4 then sumD p r cd (doesK p r) cd.length
  else if i = 5 then sumD p r cd (moreK p r) cd.length
  else if i < 12 then ordD p (nth r (12 + (i - 6) / 2)) (nth r (16 + (i - 6) / 2)) (nth r (13 + (i - 6) / 2)) (nth r (17 + (i - 6) / 2)) (i % 2 == 1)
  else if i = 12 then fsub p (numK p n cd.length) (sumD p r cd (goesD p r) cd.length)
  else if i = 13 then fsub p (nth n 0) (sumD p r cd (fpK p r) cd.length)
  else if i = 14 then fsub p (nth n 1) (sumD p r cd (apK p r) cd.length)
  else if i = 15 then fsub p (nth n 2) (sumD p r cd (rvK r) cd.length)
  else if i < 18 then ordD p (nth r 15) (nth r 19) (nth n 12) (nth n 16) (i == 17)
  else if i = 18 then fsub p (nth r 20) 1
  else if i = 19 then fsub p (nth r 0) 1
  else if i = 20 then fsub p (fsub p (nth r 1) 1) sz
  else if i = 21 then fof p (nth r 2)
  else if i = 22 then fof p (nth r 12)
  else if i = 23 then fof p (nth r 16)
  else if i = 24 then fsub p (sumD p r cd haltK cd.length) 1
  else fsub p (nth r 7) out
/-- What a rule says, as the document has it. -/
def ruleD (i : Nat) : Int := if i < cd.length then fsub p (fmul p (nth r (20 + i)) (nth r (20 + i))) (nth r (20 + i)) else tailD p sz out cd r n (i - cd.length)
end
section
variable {p sz out : Int} {cd : List In4} {r n : List Int}
theorem ones_same (m : Nat) : fof p (onesD p r m) = fsub p (sumK p r cd oneK m) 1 := by
  have h : ∀ m, onesD p r m % p = (sumK p r cd oneK m - 1) % p := by
    intro m
    induction m with
    | zero => simp [onesD, sumK]
    | succ k ih =>
      simp only [onesD, sumK, fadd, fmul, oneK, Int.mul_one, Int.add_emod_emod, Int.emod_emod]
      rw [Int.add_emod, ih, ← Int.add_emod, Int.sub_emod ((_ + _) % p), Int.emod_emod, ← Int.sub_emod]
      congr 1; omega
  unfold fof fsub; exact h m
theorem rulesK_length : (rulesK p sz out cd r n).length = cd.length + 26 := by simp [rulesK, headK, tailK, ordK]
theorem tail_same {i : Nat} (h : i < 26) : (tailK p sz out cd r n).getD i 0 = tailD p sz out cd r n i := by
  have e0 : sumD p r cd (cellD p r 0) cd.length = sumK p r cd (cellK p r 0) cd.length := sum_same cd (cell_same 0 (by omega)) _
  have e1 : sumD p r cd (cellD p r 1) cd.length = sumK p r cd (cellK p r 1) cd.length := sum_same cd (cell_same 1 (by omega)) _
  have e2 : sumD p r cd (cellD p r 2) cd.length = sumK p r cd (cellK p r 2) cd.length := sum_same cd (cell_same 2 (by omega)) _
  have e3 : sumD p r cd (goesD p r) cd.length = sumK p r cd (goesK p r) cd.length := sum_same cd goes_same _
  have ed : ∀ g, sumD p r cd g cd.length = sumK p r cd g cd.length := fun g => sum_same cd (fun _ _ => rfl) _
  have eo : fof p (onesD p r cd.length) = fsub p (sumK p r cd oneK cd.length) 1 := ones_same _
  unfold tailK tailD ordK ordD
  iterate 26 (rcases i with _ | i; · simp [e0, e1, e2, e3, ed, eo])
  omega
theorem rule_same {i : Nat} (h : i < cd.length + 26) : nth (rulesK p sz out cd r n) i = ruleD p sz out cd r n i := by
  unfold rulesK ruleD nth
  have hl : (headK p cd r).length = cd.length := by simp [headK]
  split
  · rename_i hi
    rw [List.getD_eq_getElem?_getD, List.getElem?_append_left (by omega), List.getElem?_eq_getElem (by omega)]
    simp [headK, nth]
  · rename_i hi
    rw [List.getD_eq_getElem?_getD, List.getElem?_append_right (by omega), hl, ← List.getD_eq_getElem?_getD]
    exact tail_same (by omega)
end
/-- Does a rule speak of a row? -/
def kindR (l k : Nat) : Nat := if k < l + 12 then 0 else if k < l + 18 then 1 else if k < l + 24 then 2 else 3
def speakB (N kind i : Nat) : Bool := if kind = 1 then decide (i + 1 < N) else if kind = 2 then i == 0 else if kind = 3 then i + 1 == N else true
/-- Does a rule not hold of a row and the next one? -/
def badB (p sz out : Int) (cd : List In4) (L : List (List Int)) (k i : Nat) : Bool :=
  speakB L.length (kindR cd.length k) i && (ruleD p sz out cd (nthL L i) (nthL L ((i + 1) % L.length)) k != 0)
/-- Are the rows of another shape than the code's? -/
def shapeB (cd : List In4) (L : List (List Int)) : Bool := L.length == 0 || cd.length == 0 || L.any fun r => r.length != 20 + cd.length
/-- What is told: a rule and a row. -/
def toldB (o : Option (Nat × Nat)) : Int × Int := match o with | none => (-1, 0) | some (k, i) => (k, i)
end Go.Att
end
section
namespace Go.Att
open Go.RowKit
/-- What the program's rules are asked of lies in a block. -/
structure JAt (w : World) (b : Nat) (f : Value) (p g : Int) (fs : List Int) (sz out : Int) (cd : List In4) (lv rv nv : Value) (r n : List Int) : Prop where
  c0 : w.cell? ⟨b, 0, none⟩ = some f
  c1 : w.cell? ⟨b, 1, none⟩ = some (.int .i64 sz)
  c2 : w.cell? ⟨b, 2, none⟩ = some lv
  c3 : w.cell? ⟨b, 3, none⟩ = some (.int .i64 out)
  c4 : w.cell? ⟨b, 4, none⟩ = some rv
  c5 : w.cell? ⟨b, 5, none⟩ = some nv
  fld : Fld w f p g fs
  code : Inqs w lv cd
  row : Ints w rv r
  next : Ints w nv n
  lr : r.length = 20 + cd.length
  ln : n.length = 20 + cd.length
theorem JAt.ext {w w' : World} {b : Nat} {f : Value} {p g : Int} {fs : List Int} {sz out : Int} {cd : List In4} {lv rv nv : Value} {r n : List Int} (h : JAt w b f p g fs sz out cd lv rv nv r n) (hx : Ext w w') : JAt w' b f p g fs sz out cd lv rv nv r n :=
  ⟨hx.cell h.c0, hx.cell h.c1, hx.cell h.c2, hx.cell h.c3, hx.cell h.c4, hx.cell h.c5, h.fld.ext hx, h.code.ext hx, h.row.ext hx, h.next.ext hx, h.lr, h.ln⟩
theorem drewN_drewN (w : World) (m n : Nat) : (w.drewN m).drewN n = w.drewN (m + n) := by simp [World.drewN, Nat.add_assoc]
end Go.Att
namespace Go.Proofs.YtnmjaddhbecopaaGreatDoor
open Go.RowKit Go.Att
section
variable {w : World} {q : Nat} {f : Value} {p g : Int} {fs : List Int} {sz out : Int} {cd : List In4} {lv rv nv : Value} {r n : List Int}
set_option maxRecDepth 100000 in
set_option maxHeartbeats 4000000 in
theorem jv_any (h : JAt w q f p g fs sz out cd lv rv nv r n) (t : Nat) (ti : Int) (ht : (t = 0 ∧ ti = 0) ∨ (t = 1 ∧ ti = 1) ∨ (t = 2 ∧ ti = 2)) : Calls Tryz.prog 194 #[.pointer (some ⟨q, 0, none⟩), .int .i64 ti] w fun e w' => e = .returned (.int .i64 (nth r (7 + t))) ∧ w = w' := by
  have c4 := h.c4
  have f7 : ∀ w', (Instr.indexAt 23 rv (.int .i64 7)).run Tryz.prog w' = .ok (.pointer (some (elt rv 7 1))) w' := h.row.run_index slInts 7 (by have := h.lr; omega)
  have d7 := h.row.cell 7 (by have := h.lr; omega)
  have f8 : ∀ w', (Instr.indexAt 23 rv (.int .i64 8)).run Tryz.prog w' = .ok (.pointer (some (elt rv 8 1))) w' := h.row.run_index slInts 8 (by have := h.lr; omega)
  have d8 := h.row.cell 8 (by have := h.lr; omega)
  have f9 : ∀ w', (Instr.indexAt 23 rv (.int .i64 9)).run Tryz.prog w' = .ok (.pointer (some (elt rv 9 1))) w' := h.row.run_index slInts 9 (by have := h.lr; omega)
  have d9 := h.row.cell 9 (by have := h.lr; omega)
  clear h
  rcases ht with ⟨rfl, rfl⟩ | ⟨rfl, rfl⟩ | ⟨rfl, rfl⟩
  all_goals
    go_enter Tryz.func194, Tryz.ntmps194
    go_wp2_with fail
    go_ret
    exact ⟨rfl, rfl⟩
theorem jv_q (h : JAt w q f p g fs sz out cd lv rv nv r n) (t : Nat) (ti : Int) (ht : (t = 0 ∧ ti = 0) ∨ (t = 1 ∧ ti = 1) ∨ (t = 2 ∧ ti = 2)) (m : Nat) : Calls Tryz.prog 194 #[.pointer (some ⟨q, 0, none⟩), .int .i64 ti] (w.drewN m) fun e w' => e = .returned (.int .i64 (nth r (7 + t))) ∧ ∃ k, w' = w.drewN k := (jv_any (h.ext (Ext.drewN w m)) t ti ht).mono fun _ _ h => ⟨h.1, m, h.2.symm⟩
theorem jv_t (h : JAt w q f p g fs sz out cd lv rv nv r n) (ti : Int) (h0 : 0 ≤ ti) (h1 : ti ≤ 2) (m : Nat) : Calls Tryz.prog 194 #[.pointer (some ⟨q, 0, none⟩), .int .i64 ti] (w.drewN m) fun e w' => e = .returned (.int .i64 (nth r (7 + ti.toNat))) ∧ ∃ k, w' = w.drewN k := jv_q h ti.toNat ti (by omega) m
set_option maxRecDepth 100000 in
set_option maxHeartbeats 4000000 in
theorem jhelps_any (h : JAt w q f p g fs sz out cd lv rv nv r n) : Calls Tryz.prog 242 #[.pointer (some ⟨q, 0, none⟩)] w fun e w' => e = .returned (.int .i64 (fmul p (nth r 11) (nth r 7))) ∧ ∃ m, w' = w.drewN m := by
  have c0 := h.c0
  have c4 := h.c4
  have HF := Lib.hid h.fld
  have f11 : ∀ w', (Instr.indexAt 23 rv (.int .i64 11)).run Tryz.prog w' = .ok (.pointer (some (elt rv 11 1))) w' := h.row.run_index slInts 11 (by have := h.lr; omega)
  have d11 := h.row.cell 11 (by have := h.lr; omega)
  have HH := Lib.hid h
  clear h
  go_enter Tryz.func242, Tryz.ntmps242
  go_wp2_with fail
  go_quiet ((first | (go_at_call 194; exact jv_q HH.out 0 _ (by simp) _) | (go_at_call 123; exact mul_q HF.out _ _ _)))
  go_wp2_with fail
  go_ret
  exact ⟨rfl, _, rfl⟩
theorem jhelps_q (h : JAt w q f p g fs sz out cd lv rv nv r n) (m : Nat) : Calls Tryz.prog 242 #[.pointer (some ⟨q, 0, none⟩)] (w.drewN m) fun e w' => e = .returned (.int .i64 (fmul p (nth r 11) (nth r 7))) ∧ ∃ k, w' = w.drewN k := (jhelps_any (h.ext (Ext.drewN w m))).mono fun _ _ h => ⟨h.1, by obtain ⟨k, hk⟩ := h.2; exact ⟨m + k, by rw [hk, drewN_drewN]⟩⟩
end
end Go.Proofs.YtnmjaddhbecopaaGreatDoor
end
