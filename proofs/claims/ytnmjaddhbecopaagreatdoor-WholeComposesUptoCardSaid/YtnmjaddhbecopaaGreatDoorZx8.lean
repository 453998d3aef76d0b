/- RulesBroken, plain: all rules of a row and the next one; what comes to the first that does not hold. No program in sight. Instructions: how a slice of them reads. RulesBroken: the program's side: what a rule is asked of. RulesBroken: two cells of a block of the call's own; what Broken tells, plain. How an argument reads that is a code: a struct of a number and a slice of four numbers each. -/
import Derived.Test.YtnmjaddhbecopaaGreatDoorZx4
import Derived.Test.YtnmjaddhbecopaaGreatDoorVc
import Derived.Test.YtnmjaddhbecopaaGreatDoorProg
import Derived.StillTailTactics
import Derived.Test.YtnmjaddhbecopaaGreatDoorFa
import Derived.Test.YtnmjaddhbecopaaGreatDoorM1
import Derived.BigQuiet
import Derived.IntWalk
import Derived.Test.YtnmjaddhbecopaaGreatDoorZx16
section
namespace Go.Att
section
variable (p sz out : Int) (cd : List In4) (r n : List Int)
def headK : List Int := (List.range cd.length).map fun k => fsub p (fmul p (nth r (20 + k)) (nth r (20 + k))) (nth r (20 + k))
def tailK : List Int :=
  [fsub p (sumK p r cd oneK cd.length) 1,
   fsub p (nth r 3) (sumK p r cd (cellK p r 0) cd.length), fsub p (nth r 4) (sumK p r cd (cellK p r 1) cd.length), fsub p (nth r 5) (sumK p r cd (cellK p r 2) cd.length),
   sumK p r cd (doesK p r) cd.length, sumK p r cd (moreK p r) cd.length] ++
  ordK p (nth r 12) (nth r 16) (nth r 13) (nth r 17) ++ ordK p (nth r 13) (nth r 17) (nth r 14) (nth r 18) ++ ordK p (nth r 14) (nth r 18) (nth r 15) (nth r 19) ++
  [fsub p (numK p n cd.length) (sumK p r cd (goesK p r) cd.length)] ++
  [fsub p (nth n 0) (sumK p r cd (fpK p r) cd.length), fsub p (nth n 1) (sumK p r cd (apK p r) cd.length), fsub p (nth n 2) (sumK p r cd (rvK r) cd.length)] ++
  ordK p (nth r 15) (nth r 19) (nth n 12) (nth n 16) ++
  [fsub p (nth r 20) 1, fsub p (nth r 0) 1, fsub p (fsub p (nth r 1) 1) sz, fof p (nth r 2), fof p (nth r 12), fof p (nth r 16)] ++
  [fsub p (sumK p r cd haltK cd.length) 1, fsub p (nth r 7) out]
/-- What the rules say of a row and the next one, as the program lists it. -/
def rulesK : List Int := headK p cd r ++ tailK p sz out cd r n
/-- The order's rules, as the document has them. -/
def ordD (a v b u : Int) (second : Bool) : Int := if second = true then fmul p (fsub p (fsub p b a) 1) (fsub p u v) else fmul p (fsub p b a) (fsub p (fsub p b a) 1)
/-- What the rules behind the instructions' say, as the document has it. -/
def tailD (i : Nat) : Int :=
  if i = 0 then fof p (onesD p r cd.length)
  else if i < 4 then fsub p (nth r (2 + i)) (sumD p r cd (cellD p r (i - 1)) cd.length)
  else if i = 4 then sumD p r cd (doesK p r) cd.length
  else if i = 5 then sumD p r cd (moreK p r) cd.length
  else if i < 12 then ordD p (nth r (12 + (i - 6) / 2)) (nth r (16 + (i - 6) / 2)) (nth r (13 + (i - 6) / 2)) (nth r (17 + (i - 6) / 2)) (i % 2 == 1)
  else if i = 12 then fsub p (numK p n cd.length) (sumD p r cd (goesD p r) cd.length)
  else if i = 13 then fsub p (nth n 0) (sumD p r cd (fpK p r) cd.length)
  else if i = 14 then fsub p (nth n 1) (sumD p r cd (apK p r) cd.length)
  else if i = 15 then fsub p (nth n 2) (sumD p r cd (rvK r) cd.length)
  else if i < 18 then ordD p (nth r 15) (nth r 19) (nth n 12) (nth n 16) (i == 17)
  else if i = 18 then fsub p (nth r 20) 1
  else if i = 19 then fsub p (nth r 0) 1
  else if i = 20 then fsub p (fsub p (nth r 1) 1) sz
  else if i = 21 then fof p (nth r 2)
  else if i = 22 then fof p (nth r 12)
  else if i = 23 then fof p (nth r 16)
  else if i = 24 then fsub p (sumD p r cd haltK cd.length) 1
  else fsub p (nth r 7) out
/-- What a rule says, as the document has it. -/
def ruleD (i : Nat) : Int := if i < cd.length then fsub p (fmul p (nth r (20 + i)) (nth r (20 + i))) (nth r (20 + i)) else tailD p sz out cd r n (i - cd.length)
end
section
variable {p sz out : Int} {cd : List In4} {r n : List Int}
theorem ones_same (m : Nat) : fof p (onesD p r m) = fsub p (sumK p r cd oneK m) 1 := by
  have h : ∀ m, onesD p r m % p = (sumK p r cd oneK m - 1) % p := by
    intro m
    induction m with
    | zero => simp [onesD, sumK]
    | succ k ih =>
      simp only [onesD, sumK, fadd, fmul, oneK, Int.mul_one, Int.add_emod_emod, Int.emod_emod]
      rw [Int.add_emod, ih, ← Int.add_emod, Int.sub_emod ((_ + _) % p), Int.emod_emod, ← Int.sub_emod]
      congr 1; omega
  unfold fof fsub; exact h m
theorem rulesK_length : (rulesK p sz out cd r n).length = cd.length + 26 := by simp [rulesK, headK, tailK, ordK]
theorem tail_same {i : Nat} (h : i < 26) : (tailK p sz out cd r n).getD i 0 = tailD p sz out cd r n i := by
  have e0 : sumD p r cd (cellD p r 0) cd.length = sumK p r cd (cellK p r 0) cd.length := sum_same cd (cell_same 0 (by omega)) _
  have e1 : sumD p r cd (cellD p r 1) cd.length = sumK p r cd (cellK p r 1) cd.length := sum_same cd (cell_same 1 (by omega)) _
  have e2 : sumD p r cd (cellD p r 2) cd.length = sumK p r cd (cellK p r 2) cd.length := sum_same cd (cell_same 2 (by omega)) _
  have e3 : sumD p r cd (goesD p r) cd.length = sumK p r cd (goesK p r) cd.length := sum_same cd goes_same _
  have ed : ∀ g, sumD p r cd g cd.length = sumK p r cd g cd.length := fun g => sum_same cd (fun _ _ => rfl) _
  have eo : fof p (onesD p r cd.length) = fsub p (sumK p r cd oneK cd.length) 1 := ones_same _
  unfold tailK tailD ordK ordD
  iterate 26 (rcases i with _ | i; · simp [e0, e1, e2, e3, ed, eo])
  omega
theorem rule_same {i : Nat} (h : i < cd.length + 26) : nth (rulesK p sz out cd r n) i = ruleD p sz out cd r n i := by
  unfold rulesK ruleD nth
  have hl : (headK p cd r).length = cd.length := by simp [headK]
  split
  · rename_i hi
    rw [List.getD_eq_getElem?_getD, List.getElem?_append_left (by omega), List.getElem?_eq_getElem (by omega)]
    simp [headK, nth]
  · rename_i hi
    rw [List.getD_eq_getElem?_getD, List.getElem?_append_right (by omega), hl, ← List.getD_eq_getElem?_getD]
    exact tail_same (by omega)
end
/-- Does a rule speak of a row? -/
def kindR (l k : Nat) : Nat := if k < l + 12 then 0 else if k < l + 18 then 1 else if k < l + 24 then 2 else 3
def speakB (N kind i : Nat) : Bool := if kind = 1 then decide (i + 1 < N) else if kind = 2 then i == 0 else if kind = 3 then i + 1 == N else true
/-- Does a rule not hold of a row and the next one? -/
def badB (p sz out : Int) (cd : List In4) (L : List (List Int)) (k i : Nat) : Bool :=
  speakB L.length (kindR cd.length k) i && (ruleD p sz out cd (nthL L i) (nthL L ((i + 1) % L.length)) k != 0)
/-- Are the rows of another shape than the code's? -/
def shapeB (cd : List In4) (L : List (List Int)) : Bool := L.length == 0 || cd.length == 0 || L.any fun r => r.length != 20 + cd.length
/-- What is told: a rule and a row. -/
def toldB (o : Option (Nat × Nat)) : Int × Int := match o with | none => (-1, 0) | some (k, i) => (k, i)
end Go.Att
end
section
/-! Instructions: how a slice of them reads. -/
namespace Go.Att
open Go.RowKit
def flatQ (l : List In4) : List Value := l.flatMap fun c => [.int .i64 c.op, .int .i64 c.a, .int .i64 c.b, .int .i64 c.c]
theorem flatQ_length (l : List In4) : (flatQ l).length = l.length * 4 := by
  induction l with
  | nil => rfl
  | cons c l ih => simp only [flatQ, List.flatMap_cons, List.length_append, List.length_cons, List.length_nil] at *; omega
theorem flatQ_get (l : List In4) (i : Nat) (h : i < l.length) : (flatQ l)[i * 4]? = some (.int .i64 l[i].op) ∧ (flatQ l)[i * 4 + 1]? = some (.int .i64 l[i].a) ∧ (flatQ l)[i * 4 + 2]? = some (.int .i64 l[i].b) ∧ (flatQ l)[i * 4 + 3]? = some (.int .i64 l[i].c) := by
  induction l generalizing i with
  | nil => simp at h
  | cons c l ih =>
    cases i with
    | zero => simp [flatQ]
    | succ i =>
      have := ih i (by simpa using h)
      have e : (i + 1) * 4 = i * 4 + 4 := by omega
      simp only [flatQ, List.flatMap_cons, List.cons_append, List.nil_append, e] at *
      exact this
theorem nthI_eq {l : List In4} {i : Nat} (h : i < l.length) : nthI l i = l[i] := by simp [nthI, h]
/-- A slice of instructions. -/
def Inqs (w : World) (v : Value) (l : List In4) : Prop := Sl w 4 v l.length (flatQ l)
section
variable {P : Program} {w w' : World} {v : Value} {l : List In4}
theorem Inqs.ext (h : Inqs w v l) (hx : Ext w w') : Inqs w' v l := Sl.ext h hx
theorem Inqs.len (h : Inqs w v l) : l.length ≤ 9223372036854775807 := by have := Sl.len h; unfold maxLen at this; omega
theorem Inqs.run_len (h : Inqs w v l) {t e bytes : Nat} {z : Value} (ht : SlT P t e 4 bytes z) (ty : TypeId) (w' : World) :
    (Builtin.len_ #[t] ty #[v]).run P w' = .ok (.int .i64 l.length) w' := Sl.run_len h ht ty w'
theorem Inqs.run_index (h : Inqs w v l) {t e bytes : Nat} {z : Value} (ht : SlT P t e 4 bytes z) (i : Nat) (hi : i < l.length) (w' : World) :
    (Instr.indexAt t v (.int .i64 i)).run P w' = .ok (.pointer (some (elt v i 4))) w' := Sl.run_index h ht i (by omega) (by omega) w'
theorem Inqs.c0 (h : Inqs w v l) (i : Nat) (hi : i < l.length) : w.cell? (elt v i 4) = some (.int .i64 (nthI l i).op) := by
  have := Sl.cell h i 0 hi (by omega)
  simp only [Addr.add, if_true, Nat.add_zero] at this
  rw [this, (flatQ_get l i hi).1, nthI_eq hi]
theorem Inqs.c1 (h : Inqs w v l) (i : Nat) (hi : i < l.length) : w.cell? ⟨(elt v i 4).block, (elt v i 4).off + 1, none⟩ = some (.int .i64 (nthI l i).a) := by
  have := Sl.cell h i 1 hi (by omega)
  simp only [Addr.add] at this
  rw [if_neg (by omega)] at this
  rw [this, (flatQ_get l i hi).2.1, nthI_eq hi]
theorem Inqs.c2 (h : Inqs w v l) (i : Nat) (hi : i < l.length) : w.cell? ⟨(elt v i 4).block, (elt v i 4).off + 2, none⟩ = some (.int .i64 (nthI l i).b) := by
  have := Sl.cell h i 2 hi (by omega)
  simp only [Addr.add] at this
  rw [if_neg (by omega)] at this
  rw [this, (flatQ_get l i hi).2.2.1, nthI_eq hi]
theorem Inqs.c3 (h : Inqs w v l) (i : Nat) (hi : i < l.length) : w.cell? ⟨(elt v i 4).block, (elt v i 4).off + 3, none⟩ = some (.int .i64 (nthI l i).c) := by
  have := Sl.cell h i 3 hi (by omega)
  simp only [Addr.add] at this
  rw [if_neg (by omega)] at this
  rw [this, (flatQ_get l i hi).2.2.2, nthI_eq hi]
theorem Inqs.shape (h : Inqs w v l) : ∃ ao cap, v = .slice ao l.length cap := by
  obtain ⟨ao, cap, h1, _⟩ := h; exact ⟨ao, cap, h1⟩
end
end Go.Att
namespace Go.Proofs.YtnmjaddhbecopaaGreatDoor
open Go.RowKit Go.Att
theorem slIns : SlT Tryz.prog 46 169 4 32 (.agg #[.int .i64 0, .int .i64 0, .int .i64 0, .int .i64 0]) := .mk' Tryz.underlying46 (by kernel_rfl) (by decide)
end Go.Proofs.YtnmjaddhbecopaaGreatDoor
end
section
namespace Go.Att
open Go.RowKit
/-- What the program's rules are asked of lies in a block. -/
structure JAt (w : World) (b : Nat) (f : Value) (p g : Int) (fs : List Int) (sz out : Int) (cd : List In4) (lv rv nv : Value) (r n : List Int) : Prop where
  c0 : w.cell? ⟨b, 0, none⟩ = some f
  c1 : w.cell? ⟨b, 1, none⟩ = some (.int .i64 sz)
  c2 : w.cell? ⟨b, 2, none⟩ = some lv
  c3 : w.cell? ⟨b, 3, none⟩ = some (.int .i64 out)
  c4 : w.cell? ⟨b, 4, none⟩ = some rv
  c5 : w.cell? ⟨b, 5, none⟩ = some nv
  fld : Fld w f p g fs
  code : Inqs w lv cd
  row : Ints w rv r
  next : Ints w nv n
  lr : r.length = 20 + cd.length
  ln : n.length = 20 + cd.length
theorem JAt.ext {w w' : World} {b : Nat} {f : Value} {p g : Int} {fs : List Int} {sz out : Int} {cd : List In4} {lv rv nv : Value} {r n : List Int} (h : JAt w b f p g fs sz out cd lv rv nv r n) (hx : Ext w w') : JAt w' b f p g fs sz out cd lv rv nv r n :=
  ⟨hx.cell h.c0, hx.cell h.c1, hx.cell h.c2, hx.cell h.c3, hx.cell h.c4, hx.cell h.c5, h.fld.ext hx, h.code.ext hx, h.row.ext hx, h.next.ext hx, h.lr, h.ln⟩
theorem drewN_drewN (w : World) (m n : Nat) : (w.drewN m).drewN n = w.drewN (m + n) := by simp [World.drewN, Nat.add_assoc]
end Go.Att
namespace Go.Proofs.YtnmjaddhbecopaaGreatDoor
open Go.RowKit Go.Att
section
variable {w : World} {q : Nat} {f : Value} {p g : Int} {fs : List Int} {sz out : Int} {cd : List In4} {lv rv nv : Value} {r n : List Int}
set_option maxRecDepth 100000 in
set_option maxHeartbeats 4000000 in
theorem jv_any (h : JAt w q f p g fs sz out cd lv rv nv r n) (t : Nat) (ti : Int) (ht : (t = 0 ∧ ti = 0) ∨ (t = 1 ∧ ti = 1) ∨ (t = 2 ∧ ti = 2)) : Calls Tryz.prog 194 #[.pointer (some ⟨q, 0, none⟩), .int .i64 ti] w fun e w' => e = .returned (.int .i64 (nth r (7 + t))) ∧ w = w' := by
  have c4 := h.c4
  have f7 : ∀ w', (Instr.indexAt 23 rv (.int .i64 7)).run Tryz.prog w' = .ok (.pointer (some (elt rv 7 1))) w' := h.row.run_index slInts 7 (by have := h.lr; omega)
  have d7 := h.row.cell 7 (by have := h.lr; omega)
  have f8 : ∀ w', (Instr.indexAt 23 rv (.int .i64 8)).run Tryz.prog w' = .ok (.pointer (some (elt rv 8 1))) w' := h.row.run_index slInts 8 (by have := h.lr; omega)
  have d8 := h.row.cell 8 (by have := h.lr; omega)
  have f9 : ∀ w', (Instr.indexAt 23 rv (.int .i64 9)).run Tryz.prog w' = .ok (.pointer (some (elt rv 9 1))) w' := h.row.run_index slInts 9 (by have := h.lr; omega)
  have d9 := h.row.cell 9 (by have := h.lr; omega)
  clear h
  rcases ht with ⟨rfl, rfl⟩ | ⟨rfl, rfl⟩ | ⟨rfl, rfl⟩
  all_goals
    go_enter Tryz.func194, Tryz.ntmps194
    go_wp2_with fail
    go_ret
    exact ⟨rfl, rfl⟩
theorem jv_q (h : JAt w q f p g fs sz out cd lv rv nv r n) (t : Nat) (ti : Int) (ht : (t = 0 ∧ ti = 0) ∨ (t = 1 ∧ ti = 1) ∨ (t = 2 ∧ ti = 2)) (m : Nat) : Calls Tryz.prog 194 #[.pointer (some ⟨q, 0, none⟩), .int .i64 ti] (w.drewN m) fun e w' => e = .returned (.int .i64 (nth r (7 + t))) ∧ ∃ k, w' = w.drewN k := (jv_any (h.ext (Ext.drewN w m)) t ti ht).mono fun _ _ h => ⟨h.1, m, h.2.symm⟩
theorem jv_t (h : JAt w q f p g fs sz out cd lv rv nv r n) (ti : Int) (h0 : 0 ≤ ti) (h1 : ti ≤ 2) (m : Nat) : Calls Tryz.prog 194 #[.pointer (some ⟨q, 0, none⟩), .int .i64 ti] (w.drewN m) fun e w' => e = .returned (.int .i64 (nth r (7 + ti.toNat))) ∧ ∃ k, w' = w.drewN k := jv_q h ti.toNat ti (by omega) m
set_option maxRecDepth 100000 in
set_option maxHeartbeats 4000000 in
theorem jhelps_any (h : JAt w q f p g fs sz out cd lv rv nv r n) : Calls Tryz.prog 242 #[.pointer (some ⟨q, 0, none⟩)] w fun e w' => e = .returned (.int .i64 (fmul p (nth r 11) (nth r 7))) ∧ ∃ m, w' = w.drewN m := by
  have c0 := h.c0
  have c4 := h.c4
  have HF := Lib.hid h.fld
  have f11 : ∀ w', (Instr.indexAt 23 rv (.int .i64 11)).run Tryz.prog w' = .ok (.pointer (some (elt rv 11 1))) w' := h.row.run_index slInts 11 (by have := h.lr; omega)
  have d11 := h.row.cell 11 (by have := h.lr; omega)
  have HH := Lib.hid h
  clear h
  go_enter Tryz.func242, Tryz.ntmps242
  go_wp2_with fail
  go_quiet ((first | (go_at_call 194; exact jv_q HH.out 0 _ (by simp) _) | (go_at_call 123; exact mul_q HF.out _ _ _)))
  go_wp2_with fail
  go_ret
  exact ⟨rfl, _, rfl⟩
theorem jhelps_q (h : JAt w q f p g fs sz out cd lv rv nv r n) (m : Nat) : Calls Tryz.prog 242 #[.pointer (some ⟨q, 0, none⟩)] (w.drewN m) fun e w' => e = .returned (.int .i64 (fmul p (nth r 11) (nth r 7))) ∧ ∃ k, w' = w.drewN k := (jhelps_any (h.ext (Ext.drewN w m))).mono fun _ _ h => ⟨h.1, by obtain ⟨k, hk⟩ := h.2; exact ⟨m + k, by rw [hk, drewN_drewN]⟩⟩
end
end Go.Proofs.YtnmjaddhbecopaaGreatDoor
end
section
namespace Go.Att
open Go.RowKit
/-- Two cells of a block of the call's own. -/
structure C2 (w : World) (b : Nat) (x y : Value) : Prop where
  c0 : w.cell? ⟨b, 0, none⟩ = some x
  c1 : w.cell? ⟨b, 1, none⟩ = some y
  f0 : w.frozen? ⟨b, 0, none⟩ = false
  f1 : w.frozen? ⟨b, 1, none⟩ = false
section
variable {w w' : World} {b : Nat} {x y : Value}
theorem C2.new (w : World) (x y : Value) (t : TypeId) : C2 (w.alloc (Obj.cells #[x, y] t)) w.heap.size x y :=
  ⟨by rw [cell_new]; rfl, by rw [cell_new]; rfl, by simp, by simp⟩
theorem C2.ext (h : C2 w b x y) (hx : Ext w w') : C2 w' b x y := by
  have hb : b < w.heap.size := World.block_lt_of_cell? w ⟨b, 0, none⟩ h.c0
  exact ⟨hx.cell h.c0, hx.cell h.c1, (Below.frozen hx (p := ⟨b, 0, none⟩) hb).trans h.f0, (Below.frozen hx (p := ⟨b, 1, none⟩) hb).trans h.f1⟩
theorem C2.set0 (h : C2 w b x y) (v : Value) : C2 (w.setCell ⟨b, 0, none⟩ v) b v y :=
  ⟨World.cell?_setCell_same _ _ _ h.c0, by rw [World.cell?_setCell_other _ _ _ _ (by simp)]; exact h.c1, by rw [World.frozen?_setCell]; exact h.f0, by rw [World.frozen?_setCell]; exact h.f1⟩
theorem C2.set1 (h : C2 w b x y) (v : Value) : C2 (w.setCell ⟨b, 1, none⟩ v) b x v :=
  ⟨by rw [World.cell?_setCell_other _ _ _ _ (by simp)]; exact h.c0, World.cell?_setCell_same _ _ _ h.c1, by rw [World.frozen?_setCell]; exact h.f0, by rw [World.frozen?_setCell]; exact h.f1⟩
theorem C2.other (h : C2 w b x y) {b' k : Nat} (hne : b ≠ b') (v : Value) : C2 (w.setCell ⟨b', k, none⟩ v) b x y := by
  have hb := (setCell_grown w b' k v).block b (World.block_lt_of_cell? w ⟨b, 0, none⟩ h.c0) (fun e => hne (Option.some.inj e))
  exact ⟨by rw [World.cell?_of_block (a := ⟨b, 0, none⟩) hb]; exact h.c0, by rw [World.cell?_of_block (a := ⟨b, 1, none⟩) hb]; exact h.c1,
    by rw [World.frozen?_of_block (a := ⟨b, 0, none⟩) hb]; exact h.f0, by rw [World.frozen?_of_block (a := ⟨b, 1, none⟩) hb]; exact h.f1⟩
end
/-- Two boxes of two cells each. -/
theorem bx_new (w : World) (x y z u : Value) (t1 t2 : TypeId) : C2 ((w.alloc (Obj.cells #[x, y] t1)).alloc (Obj.cells #[z, u] t2)) w.heap.size x y ∧ C2 ((w.alloc (Obj.cells #[x, y] t1)).alloc (Obj.cells #[z, u] t2)) (w.heap.size + 1) z u ∧ Ext w ((w.alloc (Obj.cells #[x, y] t1)).alloc (Obj.cells #[z, u] t2)) := by
  refine ⟨(C2.new w x y t1).ext (Ext.alloc _ _), ?_, (Ext.alloc _ _).trans (Ext.alloc _ _)⟩
  have := C2.new (w.alloc (Obj.cells #[x, y] t1)) z u t2
  rwa [show (w.alloc (Obj.cells #[x, y] t1)).heap.size = w.heap.size + 1 by simp] at this
/-- Both cells anew. -/
theorem C2.both {w w0 : World} {b : Nat} {x y : Value} (h : C2 w b x y) (hx : Ext w0 w) (hb : w0.heap.size ≤ b) (u v : Value) : C2 ((w.setCell ⟨b, 0, none⟩ u).setCell ⟨b, 1, none⟩ v) b u v ∧ Ext w0 ((w.setCell ⟨b, 0, none⟩ u).setCell ⟨b, 1, none⟩ v) :=
  ⟨(h.set0 u).set1 v, Below.setCell (Below.setCell hx hb u) hb v⟩
/-- What Broken tells. -/
def BrkGot (p sz out : Int) (cd : List In4) (L : List (List Int)) (e : Ending) : Prop :=
  (shapeB cd L = true ∧ e = .returned (.agg #[.int .i64 (-2), .int .i64 0])) ∨
  (shapeB cd L = false ∧ ∃ o, FstBad (badB p sz out cd L) (fun k i => k < cd.length + 26 ∧ i < L.length) o ∧ e = .returned (.agg #[.int .i64 (toldB o).1, .int .i64 (toldB o).2]))
theorem BrkGot.one {p sz out : Int} {cd : List In4} {L : List (List Int)} {a b : Ending} (h1 : BrkGot p sz out cd L a) (h2 : BrkGot p sz out cd L b) : a = b := by
  rcases h1 with ⟨a1, rfl⟩ | ⟨a1, o, ho, rfl⟩ <;> rcases h2 with ⟨b1, rfl⟩ | ⟨b1, o', ho', rfl⟩
  · rfl
  · rw [a1] at b1; cases b1
  · rw [a1] at b1; cases b1
  · rw [ho.one ho']
theorem shapeB_full {cd : List In4} {L : List (List Int)} (h1 : 0 < L.length) (h2 : 0 < cd.length) (h : ∀ i, i < L.length → (nthL L i).length = 20 + cd.length) : shapeB cd L = false := by
  unfold shapeB
  rw [Bool.or_eq_false_iff, Bool.or_eq_false_iff]
  refine ⟨⟨by rw [beq_eq_false_iff_ne]; omega, by rw [beq_eq_false_iff_ne]; omega⟩, ?_⟩
  rw [List.any_eq_false]
  intro x hx
  obtain ⟨i, hi, rfl⟩ := List.mem_iff_getElem.1 hx
  have := h i hi
  simp only [nthL, List.getD_eq_getElem?_getD, List.getElem?_eq_getElem hi, Option.getD_some] at this
  simp [this]
theorem shapeB_row {cd : List In4} {L : List (List Int)} {i : Nat} (hi : i < L.length) (h : (nthL L i).length ≠ 20 + cd.length) : shapeB cd L = true := by
  unfold shapeB
  rw [Bool.or_eq_true]
  right
  rw [List.any_eq_true]
  refine ⟨L[i], List.getElem_mem hi, ?_⟩
  simp only [nthL, List.getD_eq_getElem?_getD, List.getElem?_eq_getElem hi, Option.getD_some] at h
  simpa using h
theorem shapeB_nil {cd : List In4} {L : List (List Int)} (h : L.length = 0 ∨ cd.length = 0) : shapeB cd L = true := by
  unfold shapeB
  rcases h with h | h <;> simp [h]
end Go.Att
end
section
/-! How an argument reads that is a code. -/
namespace Go.Att
open Go.RowKit Go.ChangeShapes Go.WideShapes Go.Deep
section
variable {H : Type} {enc : TypeId × Value → H} {P : Program} {w : World} {base : Nat} {spare : Nat → Bool} {held : Bool}
def InD {H : Type} (l : List In4) (d : DataW H) : Prop := l = [] ∨ ∃ es sp, d = .slice es sp ∧ es.length = l.length
theorem open_InqF {fuel : Nat} {t e : TypeId} {f0 f1 f2 f3 : Field} {v : Value} {d : DataW H} {p : List MemPlace} (ht : P.underlying t = some (.slice e)) (he : P.underlying e = some (.struct #[f0, f1, f2, f3])) (ce : P.cellsOf e = 4)
    (o0 : f0.offset = 0) (o1 : f1.offset = 1) (o2 : f2.offset = 2) (o3 : f3.offset = 3) (c0 : P.cellsOf f0.type = 1) (c1 : P.cellsOf f1.type = 1) (c2 : P.cellsOf f2.type = 1) (c3 : P.cellsOf f3.type = 1)
    (u0 : P.underlying f0.type = some (.int .i64)) (u1 : P.underlying f1.type = some (.int .i64)) (u2 : P.underlying f2.type = some (.int .i64)) (u3 : P.underlying f3.type = some (.int .i64))
    (hf : DataW.trod enc P w base spare held fuel t [v] = some (d, p)) : ∃ l : List In4, Inqs w v l ∧ InD l d := by
  rcases open_slice ht hf with ⟨h1, h2⟩ | ⟨a, len, cap, m, n, D, Pl, h1, hb, hl, hm, hmm, h6, hx⟩
  · simp at h1
    subst h1
    exact ⟨[], ⟨none, 0, rfl, by simp [flatQ], Nat.le_refl _, Nat.zero_le _, fun i hi => by simp [flatQ] at hi⟩, .inl rfl⟩
  · simp at h1 h6
    subst h1
    have hlm : len ≤ m := by rw [hmm]; split <;> omega
    have each : ∀ i, i < m → ∃ q : In4, w.cell? (a.add (i * 4)) = some (.int .i64 q.op) ∧ w.cell? (a.add (i * 4 + 1)) = some (.int .i64 q.a) ∧ w.cell? (a.add (i * 4 + 2)) = some (.int .i64 q.b) ∧ w.cell? (a.add (i * 4 + 3)) = some (.int .i64 q.c) := by
      intro i hi
      obtain ⟨cs', g1, g2⟩ := hx i hi
      rw [ce] at g1
      obtain ⟨_, hlen, hcell⟩ := World.cells?_some g1
      obtain ⟨xs, k, hk, hxy, _, hxl, hff⟩ := DataW.trod_struct he g2
      match xs, hxl, cs', hlen with
      | [y0, y1, y2, y3], _, [v0, v1, v2, v3], _ =>
        have g0 := hff 0 f0 rfl
        have g1 := hff 1 f1 rfl
        have g2 := hff 2 f2 rfl
        have g3 := hff 3 f3 rfl
        simp [o0, o1, o2, o3, c0, c1, c2, c3] at g0 g1 g2 g3
        have e0 := hcell 0 (by omega)
        have e1 := hcell 1 (by omega)
        have e2 := hcell 2 (by omega)
        have e3 := hcell 3 (by omega)
        rw [add_add] at e0 e1 e2 e3
        obtain ⟨x, hx0, _⟩ := DataW.trod_int u0 g0
        obtain ⟨y, hy0, _⟩ := DataW.trod_int u1 g1
        obtain ⟨z, hz0, _⟩ := DataW.trod_int u2 g2
        obtain ⟨u, hu0, _⟩ := DataW.trod_int u3 g3
        simp at hx0 hy0 hz0 hu0
        subst hx0 hy0 hz0 hu0
        exact ⟨⟨x, y, z, u⟩, by simpa using e0, by simpa using e1, by simpa using e2, by simpa using e3⟩
    have choose : ∃ f : Nat → In4, ∀ i, i < m → w.cell? (a.add (i * 4)) = some (.int .i64 (f i).op) ∧ w.cell? (a.add (i * 4 + 1)) = some (.int .i64 (f i).a) ∧ w.cell? (a.add (i * 4 + 2)) = some (.int .i64 (f i).b) ∧ w.cell? (a.add (i * 4 + 3)) = some (.int .i64 (f i).c) := by
      refine ⟨fun i => if h : i < m then Classical.choose (each i h) else ⟨0, 0, 0, 0⟩, fun i hi => ?_⟩
      have e : (if h : i < m then Classical.choose (each i h) else (⟨0, 0, 0, 0⟩ : In4)) = Classical.choose (each i hi) := dif_pos hi
      simp only [e]; exact Classical.choose_spec (each i hi)
    obtain ⟨f, hf2⟩ := choose
    have hlenf : ((List.range len).map f).length = len := by simp
    refine ⟨(List.range len).map f, ⟨some a, cap, by simp, by rw [flatQ_length], by simpa using hl, hm, fun i hi => ?_⟩, .inr ⟨_, _, h6.1, by simp⟩⟩
    rw [flatQ_length, hlenf] at hi
    have hk : i / 4 < len := by omega
    obtain ⟨k0, k1, k2, k3⟩ := hf2 (i / 4) (by omega)
    have hsp : a.spot = none := by
      have h0 := (hf2 0 (by omega)).1
      rw [Nat.zero_mul, Addr.add, if_pos rfl] at h0
      exact spot_none h0
    have hg := flatQ_get ((List.range len).map f) (i / 4) (by simpa using hk)
    refine ⟨a.block, a.off, by rcases a with ⟨b, o, s⟩; simp at hsp; subst hsp; rfl, ?_⟩
    rw [addr_lit hsp] at k0 k1 k2 k3
    have h3 : i % 4 = 0 ∨ i % 4 = 1 ∨ i % 4 = 2 ∨ i % 4 = 3 := by omega
    rcases h3 with h3 | h3 | h3 | h3
    · have e2 : i / 4 * 4 = i := by omega
      rw [e2] at k0 hg
      rw [k0, ← List.getElem?_eq_getElem, hg.1]; simp
    · have e2 : i / 4 * 4 + 1 = i := by omega
      rw [e2] at k1 hg
      rw [k1, ← List.getElem?_eq_getElem, hg.2.1]; simp
    · have e2 : i / 4 * 4 + 2 = i := by omega
      rw [e2] at k2 hg
      rw [k2, ← List.getElem?_eq_getElem, hg.2.2.1]; simp
    · have e2 : i / 4 * 4 + 3 = i := by omega
      rw [e2] at k3 hg
      rw [k3, ← List.getElem?_eq_getElem, hg.2.2.2]; simp
end
end Go.Att
namespace Go.Proofs.YtnmjaddhbecopaaGreatDoor.bulks
open Go.Att
theorem code_le {H : Type} {l : List In4} {d0 d1 : DataW H} (h : InD l d1) : l.length ≤ Rows.uptoBulk (.agg [d0, d1]) := by
  rcases h with rfl | ⟨es, sp, rfl, e⟩
  · exact Nat.zero_le _
  · have h1 := slice_le es sp
    simp only [Rows.uptoBulk, Rows.uptoBulkAll] at *
    omega
end Go.Proofs.YtnmjaddhbecopaaGreatDoor.bulks
end
