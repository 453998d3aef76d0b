/- RulesBroken, plain: all rules of a row and the next one; what comes to the first that does not hold. No program in sight. -/
import Derived.Test.YtainhfnanamobaaGreatDoorK1
namespace Go.Att
section
variable (p sz out : Int) (cd : List In4) (r n : List Int)
def headK : List Int := (List.range cd.length).map fun k => fsub p (fmul p (nth r (20 + k)) (nth r (20 + k))) (nth r (20 + k))
def tailK : List Int :=
  [fsub p (sumK p r cd oneK cd.length) 1,
   fsub p (nth r 3) (sumK p r cd (cellK p r 0) cd.length), fsub p (nth r 4) (sumK p r cd (cellK p r 1) cd.length), fsub p (nth r 5) (sumK p r cd (cellK p r 2) cd.length),
   sumK p r cd (doesK p r) cd.length, sumK p r cd (moreK p r) cd.length] ++
  ordK p (nth r 12) (nth r 16) (nth r 13) (nth r 17) ++ ordK p (nth r 13) (nth r 17) (nth r 14) (nth r 18) ++ ordK p (nth r 14) (nth r 18) (nth r 15) (nth r 19) ++
  [fsub p (numK p n cd.length) (sumK p r cd (goesK p r) cd.length)] ++
  [fsub p (nth n 0) (sumK p r cd (fpK p r) cd.length), fsub p (nth n 1) (sumK p r cd (apK p r) cd.length), fsub p (nth n 2) (sumK p r cd (rvK r) cd.length)] ++
  ordK p (nth r 15) (nth r 19) (nth n 12) (nth n 16) ++
  [fsub p (nth r 20) 1, fsub p (nth r 0) 1, fsub p (fsub p (nth r 1) 1) sz, fof p (nth r 2), fof p (nth r 12), fof p (nth r 16)] ++
  [fsub p (sumK p r cd haltK cd.length) 1, fsub p (nth r 7) out]
/-- What the rules say of a row and the next one, as the program lists it. -/
def rulesK : List Int := headK p cd r ++ tailK p sz out cd r n
/-- The order's rules, as the document has them. -/
def ordD (a v b u : Int) (second : Bool) : Int := if second = true then fmul p (fsub p (fsub p b a) 1) (fsub p u v) else fmul p (fsub p b a) (fsub p (fsub p b a) 1)
/-- What the rules behind the instructions' say, as the document has it. -/
def tailD (i : Nat) : Int :=
  if i = 0 then fof p (onesD p r cd.length)
  else if i < 4 then fsub p (nth r (2 + i)) (sumD p r cd (cellD p r (i - 1)) cd.length)
  else if i = 4 then sumD p r cd (doesK p r) cd.length
  else if i = 5 then sumD p r cd (moreK p r) cd.length
  else if i < 12 then ordD p (nth r (12 + (i - 6) / 2)) (nth r (16 + (i - 6) / 2)) (nth r (13 + (i - 6) / 2)) (nth r (17 + (i - 6) / 2)) (i % 2 == 1)
  else if i = 12 then fsub p (numK p n cd.length) (sumD p r cd (goesD p r) cd.length)
  else if i = 13 then fsub p (nth n 0) (sumD p r cd (fpK p r) cd.length)
  else if i = 14 then fsub p (nth n 1) (sumD p r cd (apK p r) cd.length)
  else if i = 15 then fsub p (nth n 2) (sumD p r cd (rvK r) cd.length)
  else if i < 18 then ordD p (nth r 15) (nth r 19) (nth n 12) (nth n 16) (i == 17)
  else if i = 18 then fsub p (nth r 20) 1
  else if i = 19 then fsub p (nth r 0) 1
  else if i = 20 then fsub p (fsub p (nth r 1) 1) sz
  else if i = 21 then fof p (nth r 2)
  else if i = 22 then fof p (nth r 12)
  else if i = 23 then fof p (nth r 16)
  else if i = 24 then fsub p (sumD p r cd haltK cd.length) 1
  else fsub p (nth r 7) out
/-- What a rule says, as the document has it. -/
def ruleD (i : Nat) : Int := if i < cd.length then fsub p (fmul p (nth r (20 + i)) (nth r (20 + i))) (nth r (20 + i)) else tailD p sz out cd r n (i - cd.length)
end
section
variable {p sz out : Int} {cd : List In4} {r n : List Int}
theorem ones_same (m : Nat) : fof p (onesD p r m) = fsub p (sumK p r cd oneK m) 1 := by
  have h : ∀ m, onesD p r m % p = (sumK p r cd oneK m - 1) % p := by
    intro m
    induction m with
    | zero => simp [onesD, sumK]
    | succ k ih =>
      simp only [onesD, sumK, fadd, fmul, oneK, Int.mul_one, Int.add_emod_emod, Int.emod_emod]
      rw [Int.add_emod, ih, ← Int.add_emod, Int.sub_emod ((_ + _) % p), Int.emod_emod, ← Int.sub_emod]
      congr 1; omega
  unfold fof fsub; exact h m
theorem rulesK_length : (rulesK p sz out cd r n).length = cd.length + 26 := by simp [rulesK, headK, tailK, ordK]
theorem tail_same {i : Nat} (h : i < 26) : (tailK p sz out cd r n).getD i 0 = tailD p sz out cd r n i := by
  have e0 : sumD p r cd (cellD p r 0) cd.length = sumK p r cd (cellK p r 0) cd.length := sum_same cd (cell_same 0 (by omega)) _
  have e1 : sumD p r cd (cellD p r 1) cd.length = sumK p r cd (cellK p r 1) cd.length := sum_same cd (cell_same 1 (by omega)) _
  have e2 : sumD p r cd (cellD p r 2) cd.length = sumK p r cd (cellK p r 2) cd.length := sum_same cd (cell_same 2 (by omega)) _
  have e3 : sumD p r cd (goesD p r) cd.length = sumK p r cd (goesK p r) cd.length := sum_same cd goes_same _
  have ed : ∀ g, sumD p r cd g cd.length = sumK p r cd g cd.length := fun g => sum_same cd (fun _ _ => rfl) _
  have eo : fof p (onesD p r cd.length) = fsub p (sumK p r cd oneK cd.length) 1 := ones_same _
  unfold tailK tailD ordK ordD
  iterate 26 (rcases i with _ | i; · simp [e0, e1, e2, e3, ed, eo])
  omega
theorem rule_same {i : Nat} (h : i < cd.length + 26) : nth (rulesK p sz out cd r n) i = ruleD p sz out cd r n i := by
  unfold rulesK ruleD nth
  have hl : (headK p cd r).length = cd.length := by simp [headK]
  split
  · rename_i hi
    rw [List.getD_eq_getElem?_getD, List.getElem?_append_left (by omega), List.getElem?_eq_getElem (by omega)]
    simp [headK, nth]
  · rename_i hi
    rw [List.getD_eq_getElem?_getD, List.getElem?_append_right (by omega), hl, ← List.getD_eq_getElem?_getD]
    exact tail_same (by omega)
end
/-- Does a rule speak of a row? -/
def kindB (l k : Nat) : Nat := if k < l + 12 then 0 else if k < l + 18 then 1 else if k < l + 24 then 2 else 3
def speakB (N kind i : Nat) : Bool := if kind = 1 then decide (i + 1 < N) else if kind = 2 then i == 0 else if kind = 3 then i + 1 == N else true
/-- Does a rule not hold of a row and the next one? -/
def badB (p sz out : Int) (cd : List In4) (L : List (List Int)) (k i : Nat) : Bool :=
  speakB L.length (kindB cd.length k) i && (ruleD p sz out cd (nthL L i) (nthL L ((i + 1) % L.length)) k != 0)
/-- Are the rows of another shape than the code's? -/
def shapeB (cd : List In4) (L : List (List Int)) : Bool := L.length == 0 || cd.length == 0 || L.any fun r => r.length != 20 + cd.length
/-- What is told: a rule and a row. -/
def toldB (o : Option (Nat × Nat)) : Int × Int := match o with | none => (-1, 0) | some (k, i) => (k, i)
end Go.Att
