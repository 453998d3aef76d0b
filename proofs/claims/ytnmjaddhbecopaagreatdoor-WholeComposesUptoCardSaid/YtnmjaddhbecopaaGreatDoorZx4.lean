/- RulesBroken, plain: what the rules say of a row and the next one, on both sides; the first rule that does not hold. No program in sight. The machine's map and block, plain: a datum that reads as what was told; a block known whole; what two blocks' change leaves. -/
import Derived.Test.YtnmjaddhbecopaaGreatDoorM1
import Derived.Test.YtnmjaddhbecopaaGreatDoorVc
import Derived.Maps.OwnSet
section
namespace Go.Att
section
variable (p : Int) (r n : List Int)
/-- The cells of an instruction, as the program lists them. -/
def cellsK (x : In4) : List Int :=
  if x.op = 1 ∨ x.op = 2 ∨ x.op = 3 ∨ x.op = 4 ∨ x.op = 6 then [fadd p (nth r 0) x.a, fadd p (nth r 0) x.b, fadd p (nth r 0) x.c]
  else if x.op = 5 ∨ x.op = 9 ∨ x.op = 12 ∨ x.op = 0 then [fadd p (nth r 0) x.a]
  else if x.op = 7 then [fadd p (nth r 0) x.a, fadd p (nth r 0) x.b]
  else if x.op = 10 then [nth r 1, fadd p (nth r 1) 1]
  else if x.op = 11 then [fsub p (nth r 0) 2, fsub p (nth r 0) 1, fadd p (nth r 0) x.a]
  else if x.op = 13 then [fadd p (nth r 0) x.a, fadd p (fadd p (nth r 1) 2) x.b]
  else []
def cellK (j : Nat) (_ : Nat) (x : In4) : Int := (cellsK p r x).getD j 0
def threeB (op : Int) : Bool := op == 1 || op == 2 || op == 3 || op == 4 || op == 6
def twoC (op : Int) : Bool := threeB op || op == 7
def oneB (op : Int) : Bool := twoC op || op == 5 || op == 9 || op == 12 || op == 0 || op == 13
/-- A cell of an instruction, as the document has it. -/
def cellD (j : Nat) (_ : Nat) (x : In4) : Int :=
  if (oneB x.op = true ∧ j = 0) ∨ (x.op = 11 ∧ j = 2) then fadd p (nth r 0) x.a
  else if twoC x.op = true ∧ j = 1 then fadd p (nth r 0) x.b
  else if threeB x.op = true ∧ j = 2 then fadd p (nth r 0) x.c
  else if x.op = 13 ∧ j = 1 then fadd p (fadd p (nth r 1) 2) x.b
  else if x.op = 10 ∧ j < 2 then fadd p (nth r 1) j
  else if x.op = 11 then fadd p (nth r 0) (j - 2)
  else 0
/-- What an instruction does. -/
def doesK (_ : Nat) (x : In4) : Int :=
  if x.op = 1 then fsub p (fadd p (nth r 7) (nth r 8)) (nth r 9)
  else if x.op = 2 then fsub p (fsub p (nth r 7) (nth r 8)) (nth r 9)
  else if x.op = 3 then fsub p (fmul p (nth r 7) (nth r 8)) (nth r 9)
  else if x.op = 4 then fsub p (fmul p (nth r 9) (nth r 8)) (nth r 7)
  else if x.op = 5 then fsub p (nth r 7) x.b
  else if x.op = 6 then fsub p (fmul p (fsub p (nth r 7) (nth r 8)) (nth r 11)) (fsub p 1 (nth r 9))
  else if x.op = 7 ∨ x.op = 13 then fsub p (nth r 7) (nth r 8)
  else if x.op = 9 then fmul p (nth r 7) (fsub p 1 (fmul p (nth r 11) (nth r 7)))
  else if x.op = 10 then fsub p (nth r 7) (nth r 0)
  else if x.op = 12 then fsub p (nth r 7) (nth r 2)
  else if x.op = 0 ∨ x.op = 8 ∨ x.op = 11 then 0
  else 1
/-- What else it does. -/
def moreK (k : Nat) (x : In4) : Int :=
  if x.op = 4 then fsub p (fmul p (nth r 11) (nth r 8)) 1
  else if x.op = 6 then fmul p (nth r 9) (fsub p (nth r 7) (nth r 8))
  else if x.op = 10 then fsub p (nth r 8) (k + 1)
  else 0
/-- Which is next: the program's, the document's. -/
def goesK (k : Nat) (x : In4) : Int :=
  if x.op = 0 then k
  else if x.op = 8 ∨ x.op = 10 then fof p x.a
  else if x.op = 9 then fadd p (fmul p (fsub p 1 (fmul p (nth r 11) (nth r 7))) x.b) (fmul p (fmul p (nth r 11) (nth r 7)) (k + 1))
  else if x.op = 11 then nth r 8
  else k + 1
def goesD (k : Nat) (x : In4) : Int :=
  if x.op = 0 then k
  else if x.op = 8 ∨ x.op = 10 then x.a
  else if x.op = 9 then fadd p (fmul p (fmul p (nth r 11) (nth r 7)) (k + 1)) (fmul p (fsub p 1 (fmul p (nth r 11) (nth r 7))) x.b)
  else if x.op = 11 then nth r 8
  else k + 1
/-- What the registers become. -/
def fpK (_ : Nat) (x : In4) : Int := if x.op = 10 then fadd p (nth r 1) 2 else if x.op = 11 then nth r 7 else nth r 0
def apK (_ : Nat) (x : In4) : Int := if x.op = 10 then fadd p (fadd p (nth r 1) 2) x.b else nth r 1
def rvK (_ : Nat) (x : In4) : Int := if x.op = 11 then nth r 9 else nth r 2
def oneK (_ : Nat) (_ : In4) : Int := 1
def haltK (_ : Nat) (x : In4) : Int := if x.op = 0 then 1 else 0
/-- A sum over the first instructions, each times its s. -/
def sumK (cd : List In4) (g : Nat → In4 → Int) : Nat → Int
  | 0 => 0
  | k + 1 => fadd p (sumK cd g k) (fmul p (nth r (20 + k)) (g k (nthI cd k)))
def sumD (cd : List In4) (g : Nat → In4 → Int) : Nat → Int
  | 0 => 0
  | k + 1 => fadd p (sumD cd g k) (fmul p (g k (nthI cd k)) (nth r (20 + k)))
/-- The number of the next row's instruction. -/
def numK : Nat → Int
  | 0 => 0
  | k + 1 => fadd p (numK k) (fmul p k (nth n (20 + k)))
/-- The sum of all s, less 1, as the document has it. -/
def onesD : Nat → Int
  | 0 => -1
  | k + 1 => fadd p (onesD k) (nth r (20 + k))
def ordK (b w c x : Int) : List Int := [fmul p (fsub p c b) (fsub p (fsub p c b) 1), fmul p (fsub p (fsub p c b) 1) (fsub p x w)]
end
section
variable {p : Int} {r : List Int}
theorem fmul_comm (a b : Int) : fmul p a b = fmul p b a := by unfold fmul; rw [Int.mul_comm]
theorem fadd_comm (a b : Int) : fadd p a b = fadd p b a := by unfold fadd; rw [Int.add_comm]
theorem fmul_mod {a b : Int} (c : Int) (h : a % p = b % p) : fmul p a c = fmul p c b := by
  unfold fmul; rw [Int.mul_comm c b, Int.mul_emod, h, ← Int.mul_emod]
theorem sum_same (cd : List In4) {g h : Nat → In4 → Int} (e : ∀ k x, g k x % p = h k x % p) (m : Nat) : sumD p r cd g m = sumK p r cd h m := by
  induction m with
  | zero => rfl
  | succ k ih => rw [sumD, sumK, ih, fmul_mod _ (e _ _)]
theorem cell_same (j : Nat) (hj : j < 3) (k : Nat) (x : In4) : cellD p r j k x % p = cellK p r j k x % p := by
  unfold cellD cellK cellsK oneB twoC threeB
  have hall : x.op = 1 ∨ x.op = 2 ∨ x.op = 3 ∨ x.op = 4 ∨ x.op = 6 ∨ x.op = 5 ∨ x.op = 9 ∨ x.op = 12 ∨ x.op = 0 ∨ x.op = 7 ∨ x.op = 10 ∨ x.op = 11 ∨ x.op = 13 ∨ (x.op ≠ 1 ∧ x.op ≠ 2 ∧ x.op ≠ 3 ∧ x.op ≠ 4 ∧ x.op ≠ 6 ∧ x.op ≠ 5 ∧ x.op ≠ 9 ∧ x.op ≠ 12 ∧ x.op ≠ 0 ∧ x.op ≠ 7 ∧ x.op ≠ 10 ∧ x.op ≠ 11 ∧ x.op ≠ 13) := by omega
  have hj3 : j = 0 ∨ j = 1 ∨ j = 2 := by omega
  rcases hj3 with rfl | rfl | rfl <;> rcases hall with h | h | h | h | h | h | h | h | h | h | h | h | h | h <;> simp [h, fadd, fsub, Int.sub_eq_add_neg]
theorem goes_same (k : Nat) (x : In4) : goesD p r k x % p = goesK p r k x % p := by
  unfold goesD goesK
  by_cases h1 : x.op = 0 <;> by_cases h2 : x.op = 8 ∨ x.op = 10 <;> by_cases h3 : x.op = 9 <;> by_cases h4 : x.op = 11 <;> first | (exfalso; omega) | simp [*, fof, fadd_comm]
end
/-- The first of what is bad among what is seen: the least rule, and its first row. -/
def FstBad (bad : Nat → Nat → Bool) (seen : Nat → Nat → Prop) : Option (Nat × Nat) → Prop
  | none => ∀ k i, seen k i → bad k i = false
  | some (k, i) => seen k i ∧ bad k i = true ∧ (∀ k' i', seen k' i' → k' < k → bad k' i' = false) ∧ ∀ i', seen k i' → i' < i → bad k i' = false
theorem FstBad.one {bad : Nat → Nat → Bool} {seen : Nat → Nat → Prop} {a b : Option (Nat × Nat)} (ha : FstBad bad seen a) (hb : FstBad bad seen b) : a = b := by
  cases a with
  | none => cases b with
    | none => rfl
    | some b => have := ha b.1 b.2 hb.1; rw [hb.2.1] at this; cases this
  | some a => cases b with
    | none => have := hb a.1 a.2 ha.1; rw [ha.2.1] at this; cases this
    | some b =>
      obtain ⟨k, i⟩ := a; obtain ⟨k', i'⟩ := b
      obtain ⟨a1, a2, a3, a4⟩ := ha
      obtain ⟨b1, b2, b3, b4⟩ := hb
      have e : k = k' := by
        rcases Nat.lt_trichotomy k k' with h | h | h
        · have := b3 k i a1 h; rw [a2] at this; cases this
        · exact h
        · have := a3 k' i' b1 h; rw [b2] at this; cases this
      subst e
      have e2 : i = i' := by
        rcases Nat.lt_trichotomy i i' with h | h | h
        · have := b4 i a1 h; rw [a2] at this; cases this
        · exact h
        · have := a4 i' b1 h; rw [b2] at this; cases this
      rw [e2]
/-- One more is looked at, which lies behind all rows of its rule that are seen. -/
def lookB (bad : Nat → Nat → Bool) (o : Option (Nat × Nat)) (k i : Nat) : Option (Nat × Nat) :=
  if bad k i = true ∧ (∀ q, o = some q → k < q.1) then some (k, i) else o
theorem FstBad.look {bad : Nat → Nat → Bool} {seen : Nat → Nat → Prop} {o : Option (Nat × Nat)} {k i : Nat} (h : FstBad bad seen o) (hl : ∀ i', seen k i' → i' < i) : FstBad bad (fun a b => seen a b ∨ (a = k ∧ b = i)) (lookB bad o k i) := by
  unfold lookB
  split
  · rename_i hc
    refine ⟨.inr ⟨rfl, rfl⟩, hc.1, ?_, ?_⟩
    · rintro k' i' (hs | ⟨rfl, rfl⟩) hk
      · cases o with
        | none => exact h _ _ hs
        | some q => exact h.2.2.1 _ _ hs (Nat.lt_trans hk (hc.2 q rfl))
      · omega
    · rintro i' (hs | ⟨_, rfl⟩) hi
      · cases o with
        | none => exact h _ _ hs
        | some q => exact h.2.2.1 _ _ hs (hc.2 q rfl)
      · omega
  · rename_i hc
    cases o with
    | none =>
      rintro a b (hs | ⟨rfl, rfl⟩)
      · exact h _ _ hs
      · cases hb : bad a b with
        | false => rfl
        | true => exact absurd ⟨hb, by rintro q hq; cases hq⟩ hc
    | some q =>
      obtain ⟨a, b⟩ := q
      refine ⟨.inl h.1, h.2.1, ?_, ?_⟩
      · rintro k' i' (hs | ⟨rfl, rfl⟩) hk
        · exact h.2.2.1 _ _ hs hk
        · cases hb : bad k' i' with
          | false => rfl
          | true => exact absurd ⟨hb, by rintro q hq; cases hq; exact hk⟩ hc
      · rintro i' (hs | ⟨rfl, rfl⟩) hi
        · exact h.2.2.2 _ hs hi
        · have := hl b h.1; omega
end Go.Att
end
section
namespace Go.Att
open Go.Maps Go.RowKit
/-- A map's datum that reads as what was told. -/
structure MemD {H : Type} (D : DataW H) (mem : List (Int × Int)) : Prop where
  tidy : Tidy D
  has : ∀ k : Int, Maps.has D (.int .i64 k) = (lk mem k).isSome
  at_ : ∀ (k v : Int) (z : DataW H), lk mem k = some v → D.atKey (.int .i64 k) z = .lit (.int .i64 v)
section
variable {H : Type} {D : DataW H} {mem : List (Int × Int)}
theorem MemD.nil : MemD (.map [] : DataW H) [] := ⟨tidy_empty, fun k => rfl, fun k v z h => by cases h⟩
theorem lit_ne {k k' : Int} (h : k' ≠ k) : (Lit.int .i64 k' : Lit) ≠ .int .i64 k := fun e => h (by injection e)
/-- A cell is told what it was not told yet. -/
theorem MemD.tell (h : MemD D mem) {k v : Int} (hk : WideAt.IsKeyLit (Lit.int .i64 k)) (hl : lk mem k = none) : MemD (D.put (.int .i64 k) (.lit (.int .i64 v))) (mem ++ [(k, v)]) := by
  refine ⟨h.tidy.put hk _, fun j => ?_, fun j u z hj => ?_⟩
  · by_cases e : j = k
    · subst e; rw [has_put_same h.tidy.isMap hk, lk_new hl]; rfl
    · rw [has_put_other (lit_ne e), h.has, lk_app]
      cases hj : lk mem j with
      | some x => rfl
      | none => simp [Ne.symm e]
  · by_cases e : j = k
    · subst e
      rw [lk_new hl] at hj; cases hj
      exact atKey_put_same h.tidy.isMap hk _ _
    · rw [atKey_put_other (lit_ne e)]
      rw [lk_app] at hj
      cases hx : lk mem j with
      | some x => rw [hx] at hj; cases hj; exact h.at_ _ _ _ hx
      | none => rw [hx] at hj; simp [Ne.symm e] at hj
/-- A cell is told again what it was told. -/
theorem MemD.again (h : MemD D mem) {k v : Int} (hk : WideAt.IsKeyLit (Lit.int .i64 k)) (hl : lk mem k = some v) : MemD (D.put (.int .i64 k) (.lit (.int .i64 v))) mem := by
  refine ⟨h.tidy.put hk _, fun j => ?_, fun j u z hj => ?_⟩
  · by_cases e : j = k
    · subst e; rw [has_put_same h.tidy.isMap hk, hl]; rfl
    · rw [has_put_other (lit_ne e), h.has]
  · by_cases e : j = k
    · subst e
      rw [hl] at hj; cases hj
      exact atKey_put_same h.tidy.isMap hk _ _
    · rw [atKey_put_other (lit_ne e)]; exact h.at_ _ _ _ hj
end
/-- What a map's block was told; n bounds how many entries it has. -/
def Tmem (P : Program) (K : TypeId) (w : World) (mb : Nat) (n : Int) (mem : List (Int × Int)) : Prop := ∃ (c : Nat) (D : DataW Unit), (c : Int) ≤ n ∧ w.ownsMap P K (plainElem P K) mb c D ∧ MemD D mem
section
variable {P : Program} {K T : TypeId} {w w' : World} {mb : Nat} {n : Int} {mem : List (Int × Int)}
theorem wf_small {k : Int} (h0 : 0 ≤ k) (h1 : k ≤ 2147483647) : (Lit.int .i64 k).wf = true := WalkArith.wf_i64 (by omega)
theorem Tmem.lt (h : Tmem P K w mb n mem) : mb < w.heap.size := by obtain ⟨c, D, _, h2, _⟩ := h; exact h2.lt
theorem Tmem.kept (h : Tmem P K w mb n mem) {row : Option Nat} (hg : w.grownBy w' row) (hne : some mb ≠ row) : Tmem P K w' mb n mem := by
  obtain ⟨c, D, h1, h2, h3⟩ := h; exact ⟨c, D, h1, h2.kept hg hne, h3⟩
theorem Tmem.mono (h : Tmem P K w mb n mem) {m : Int} (hm : n ≤ m) : Tmem P K w mb m mem := by
  obtain ⟨c, D, h1, h2, h3⟩ := h; exact ⟨c, D, Int.le_trans h1 hm, h2, h3⟩
variable (hk : P.underlying K = some (.int .i64)) (ht : P.underlying T = some (.map K K)) (hz : ∀ w, (zeroValue K).run P w = .ok (.int .i64 0) w)
include hk ht hz
theorem Tmem.look (h : Tmem P K w mb n mem) {k v : Int} (h0 : 0 ≤ k) (h1 : k ≤ 2147483647) (hl : lk mem k = some v) : (Instr.lookup T (.map (some mb)) (.int .i64 k) false).run P w = .ok (.int .i64 v) w := by
  obtain ⟨c, D, _, h2, h3⟩ := h
  obtain ⟨u, hr, ha, _⟩ := h2.lookup_int (int_keyed hk) ht hk (hz w) (keyOf_int_mk hk (wf_small h0 h1))
  rw [h3.at_ _ _ _ hl] at ha
  injection ha with ha
  injection ha with _ ha
  rw [ha]; exact hr
theorem Tmem.look_yes (h : Tmem P K w mb n mem) {k v : Int} (h0 : 0 ≤ k) (h1 : k ≤ 2147483647) (hl : lk mem k = some v) : (Instr.lookup T (.map (some mb)) (.int .i64 k) true).run P w = .ok (.tuple #[.int .i64 v, .bool true]) w := by
  obtain ⟨c, D, _, h2, h3⟩ := h
  obtain ⟨u, ps, hr, hu⟩ := h2.look_ok (int_keyed hk) ht (hz w) (plainElem_int hk (by decide)) (keyOf_int_mk hk (wf_small h0 h1))
  rw [h3.at_ _ _ _ hl] at hu
  obtain ⟨c, rfl, hc, _⟩ := plainElem_int_inv hk hu
  have e : v = c := by
    have := congrArg Prod.fst hc
    dsimp only at this
    injection this with this
    injection this with _ this
  rw [h3.has, hl] at hr
  rw [e]; exact hr
theorem Tmem.look_no (h : Tmem P K w mb n mem) {k : Int} (h0 : 0 ≤ k) (h1 : k ≤ 2147483647) (hl : lk mem k = none) : ∃ u : Int, (Instr.lookup T (.map (some mb)) (.int .i64 k) true).run P w = .ok (.tuple #[.int .i64 u, .bool false]) w := by
  obtain ⟨c, D, _, h2, h3⟩ := h
  obtain ⟨u, ps, hr, hu⟩ := h2.look_ok (int_keyed hk) ht (hz w) (plainElem_int hk (by decide)) (keyOf_int_mk hk (wf_small h0 h1))
  obtain ⟨c, rfl, hc, _⟩ := plainElem_int_inv hk hu
  rw [h3.has, hl] at hr
  exact ⟨c, hr⟩
omit hz in
theorem Tmem.store (h : Tmem P K w mb n mem) (hn : n < 9223372036854775807) {k v : Int} (h0 : 0 ≤ k) (h1 : k ≤ 2147483647) (h2 : 0 ≤ v) (h3 : v ≤ 2147483647) {mem' : List (Int × Int)} (hm : (lk mem k = none ∧ mem' = mem ++ [(k, v)]) ∨ (lk mem k = some v ∧ mem' = mem)) :
    ∃ w', (Instr.mapUpdate T (.map (some mb)) (.int .i64 k) (.int .i64 v)).run P w = .ok () w' ∧ Tmem P K w' mb (n + 1) mem' ∧ w.grownBy w' (some mb) := by
  obtain ⟨c, D, hc, ho, hd⟩ := h
  obtain ⟨w', hr, ho', hg⟩ := ho.update (int_keyed hk) ht (by unfold maxLen; omega) (keyOf_int_mk hk (wf_small h0 h1)) (plainElem_int hk (wf_small h2 h3))
  refine ⟨w', hr, ⟨c + 1, _, by omega, ho', ?_⟩, hg⟩
  rcases hm with ⟨hl, rfl⟩ | ⟨hl, rfl⟩
  · exact hd.tell trivial hl
  · exact hd.again trivial hl
end
/-- A block's cells, all of them. -/
def BlkOf (w : World) (b : Nat) (cs : List Value) (t : TypeId) : Prop := w.heap[b]? = some (.cells cs.toArray t (0, 0))
section
variable {w w' : World} {b : Nat} {cs : List Value} {t : TypeId}
theorem BlkOf.cell (h : BlkOf w b cs t) (i : Nat) : w.cell? ⟨b, i, none⟩ = cs[i]? := by unfold BlkOf at h; simp [World.cell?, h]
theorem BlkOf.free (h : BlkOf w b cs t) (i : Nat) : w.frozen? ⟨b, i, none⟩ = false := by unfold BlkOf at h; simp [World.frozen?, h]
theorem BlkOf.lt (h : BlkOf w b cs t) : b < w.heap.size := lt_of_block h
theorem BlkOf.set (h : BlkOf w b cs t) (i : Nat) (v : Value) : BlkOf (w.setCell ⟨b, i, none⟩ v) b (cs.set i v) t := by
  have hlt := h.lt
  unfold BlkOf at *
  have h' : w.heap[b] = .cells cs.toArray t (0, 0) := by simpa [Array.getElem?_eq_getElem hlt] using h
  show (w.heap.modify b _)[b]? = _
  rw [Array.getElem?_eq_getElem (by simpa using hlt), Array.getElem_modify_self, h']
  simp
theorem BlkOf.grown (h : BlkOf w b cs t) {row : Option Nat} (hg : w.grownBy w' row) (hne : some b ≠ row) : BlkOf w' b cs t := by
  unfold BlkOf at *; rw [hg.block b (lt_of_block h) hne]; exact h
theorem BlkOf.ext (h : BlkOf w b cs t) (hx : Ext w w') : BlkOf w' b cs t := h.grown (hx.grownBy none) (by simp)
theorem BlkOf.new (w : World) (cs : List Value) (t : TypeId) : BlkOf (w.alloc (.cells cs.toArray t)) w.heap.size cs t := by
  unfold BlkOf; exact heap_alloc_new _ _
end
theorem grown_one {W w w' : World} {b : Option Nat} (h : W.grownBy w b) (k : w.grownBy w' b) : W.grownBy w' b :=
  ⟨k.os.trans h.os, k.tape.trans h.tape, k.output.trans h.output, Nat.le_trans h.size k.size, fun q hq hne => by rw [k.block q (Nat.lt_of_lt_of_le hq h.size) hne]; exact h.block q hq hne⟩
/-- Two blocks may have changed, and new ones are there. -/
structure Turned (b c : Nat) (w w' : World) : Prop where
  os : w'.os = w.os
  tape : w'.tape = w.tape
  output : w'.output = w.output
  size : w.heap.size ≤ w'.heap.size
  block : ∀ q, q < w.heap.size → q ≠ b → q ≠ c → w'.heap[q]? = w.heap[q]?
section
variable {b c : Nat} {w w' w'' : World}
theorem Turned.refl (b c : Nat) (w : World) : Turned b c w w := ⟨rfl, rfl, rfl, Nat.le_refl _, fun _ _ _ _ => rfl⟩
theorem Turned.trans (h : Turned b c w w') (k : Turned b c w' w'') : Turned b c w w'' :=
  ⟨k.os.trans h.os, k.tape.trans h.tape, k.output.trans h.output, Nat.le_trans h.size k.size, fun q h1 h2 h3 => (k.block q (Nat.lt_of_lt_of_le h1 h.size) h2 h3).trans (h.block q h1 h2 h3)⟩
theorem Turned.one (hg : w.grownBy w' (some b)) : Turned b c w w' := ⟨hg.os, hg.tape, hg.output, hg.size, fun q h1 h2 _ => hg.block q h1 (fun e => h2 (Option.some.inj e))⟩
theorem Turned.two (hg : w.grownBy w' (some c)) : Turned b c w w' := ⟨hg.os, hg.tape, hg.output, hg.size, fun q h1 _ h3 => hg.block q h1 (fun e => h3 (Option.some.inj e))⟩
theorem Turned.of_ext (hx : Ext w w') : Turned b c w w' := Turned.one (hx.grownBy _)
theorem Turned.ext {w0 : World} (h : Turned b c w w') (hx : Ext w0 w) (hb : w0.heap.size ≤ b) (hc : w0.heap.size ≤ c) : Ext w0 w' :=
  ⟨h.os.trans hx.below.os, h.tape.trans hx.below.tape, h.output.trans hx.below.output, Nat.le_trans hx.size h.size, fun q hq => (h.block q (Nat.lt_of_lt_of_le hq hx.size) (by omega) (by omega)).trans (hx.below.block q hq)⟩
theorem Turned.blk (h : Turned b c w w') {q : Nat} {cs : List Value} {t : TypeId} (hk : BlkOf w q cs t) (h1 : q ≠ b) (h2 : q ≠ c) : BlkOf w' q cs t := by
  unfold BlkOf at *; rw [h.block q (lt_of_block hk) h1 h2]; exact hk
theorem Turned.cell (h : Turned b c w w') {a : Addr} {v : Value} (hk : w.cell? a = some v) (h1 : a.block ≠ b) (h2 : a.block ≠ c) : w'.cell? a = some v := by
  rw [World.cell?_of_block (h.block a.block (World.block_lt_of_cell? w a hk) h1 h2)]; exact hk
theorem Turned.own (h : Turned b c w w') {B e sz n : Nat} {v : Value} {xs : List Value} (ho : w.ownsRow B e sz v n xs) (h1 : v.ownBlock ≠ some b) (h2 : v.ownBlock ≠ some c) : w'.ownsRow B e sz v n xs := by
  refine ⟨ho.1, ?_⟩
  rcases ho.2 with h3 | ⟨g, cap, cur, hv, hb, hg, hr⟩
  · exact .inl h3
  · subst hv
    exact .inr ⟨g, cap, cur, rfl, hb, by rw [h.block g (lt_of_block hg) (fun e => h1 (by simp [Value.ownBlock, e])) (fun e => h2 (by simp [Value.ownBlock, e]))]; exact hg, hr⟩
end
end Go.Att
end
