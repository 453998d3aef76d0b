/- RulesSound, plain: rows that break no rule and whose pairs are alike are a run. No program in sight. -/
import Derived.Test.YtnmjaddhbecopaaGreatDoorRa
namespace Go.Att
theorem runM_way (p : Int) (cd : List In4) (n : Nat) (L : List Stp) (s : Ms) : runM p cd n L s = if (cd.length : Int) ≤ s.pc then .no 7 else
      if (nthI cd s.pc.toNat).op = 0 then (match s.blank.look (fadd p s.fp (nthI cd s.pc.toNat).a) with
        | .no e => .no e
        | .go v s' => .done (L ++ [s.note s'.acc]) v s'.mem)
      else match n with
        | 0 => .no 8
        | k + 1 => match s.blank.one p (nthI cd s.pc.toNat) with
          | .no e => .no e
          | .go _ s' => runM p cd k (L ++ [s.note s'.acc]) s' := by
  cases n <;> rfl
/-- What was told is what the pairs tell. -/
def Good (val : Int → Int) (m : List (Int × Int)) : Prop := ∀ a v, lk m a = some v → v = val a
/-- A step that is blank, or goes on to these registers. -/
def RdOk (val : Int → Int) (pc fp ap rv : Int) (r : Rs) : Prop := r = .no 10 ∨ ∃ v m c, r = .go v ⟨pc, fp, ap, rv, m, c⟩ ∧ Good val m
/-- What the rules ask of an instruction and a row. -/
structure DidM (p : Int) (val : Int → Int) (x : In4) (k : Nat) (r : List Int) : Prop where
  cell : ∀ j, j < 3 → val (cellK p r j k x % p) = nth r (7 + j) % p
  does : doesK p r k x % p = 0
  more : moreK p r k x % p = 0
section
variable {p : Int} {val : Int → Int}
theorem look_val {pc fp ap rv : Int} {m c : List (Int × Int)} (h : Good val m) (a : Int) : (Ms.mk pc fp ap rv m c).look a = .no 10 ∨ ∃ c', (Ms.mk pc fp ap rv m c).look a = .go (val a) ⟨pc, fp, ap, rv, m, c'⟩ := by
  unfold Ms.look
  cases hl : lk m a with
  | none => exact .inl (by simp only)
  | some v =>
    right
    rw [← h a v hl]
    refine ⟨c ++ [(a, v)], ?_⟩
    simp only
theorem tell_val {pc fp ap rv : Int} {m c : List (Int × Int)} (h : Good val m) {a x : Int} (e : val a = x) : ∃ m' c', (Ms.mk pc fp ap rv m c).tell a x = .go 0 ⟨pc, fp, ap, rv, m', c'⟩ ∧ Good val m' := by
  unfold Ms.tell
  cases hl : lk m a with
  | none =>
    refine ⟨m ++ [(a, x)], c ++ [(a, x)], by simp only, fun b v hb => ?_⟩
    rw [lk_app] at hb
    cases hm : lk m b with
    | some y => rw [hm] at hb; simp only [Option.some.injEq] at hb; subst hb; exact h b _ hm
    | none =>
      rw [hm] at hb
      simp only at hb
      split at hb
      · rename_i hab
        simp only [Option.some.injEq] at hb
        rw [← hb, ← hab]; exact e.symm
      · cases hb
  | some v =>
    have := h a v hl
    refine ⟨m, c ++ [(a, x)], ?_, h⟩
    simp only
    rw [if_pos (by rw [this, e])]
theorem div_of (hp : Pr p) {w v u : Int} (hw : 0 ≤ w ∧ w < p) (hv : ¬ p ∣ v) (h : fmul p w v = u) : fdiv p u v = w := by
  subst h
  unfold fmul fdiv
  rw [Int.mul_emod, Int.emod_emod, ← Int.mul_emod, Int.mul_assoc, Int.mul_emod, Int.mul_comm v, finv_mul hp hv, Int.mul_one, Int.emod_emod, mod_small hw]
theorem same_of (hp : Pr p) {u v w h : Int} (hu : 0 ≤ u ∧ u < p) (hv : 0 ≤ v ∧ v < p) (hw : 0 ≤ w ∧ w < p) (h1 : fmul p (fsub p u v) h = fsub p 1 w) (h2 : fmul p w (fsub p u v) = 0) : (if u = v then 1 else 0) = w := by
  have h2p := hp.two
  split
  · rename_i e
    subst e
    rw [fsub_self, fmul_zero_l] at h1
    have := fsub_eq h1.symm
    rw [mod_small hw, Int.emod_eq_of_lt (by omega) (by omega)] at this
    exact this
  · rename_i e
    unfold fmul at h2
    rcases hp.euclid (Int.dvd_of_emod_eq_zero h2) with h3 | h3
    · have := Int.emod_eq_zero_of_dvd h3
      rw [mod_small hw] at this; exact this.symm
    · exfalso
      have := Int.emod_eq_zero_of_dvd h3
      rw [fsub_m] at this
      exact e (fsub_zero hu hv this)
theorem nm (hp : 2 ≤ p) (a : Int) : 0 ≤ a % p ∧ a % p < p := ⟨Int.emod_nonneg _ (by omega), Int.emod_lt_of_pos _ (by omega)⟩
/-- A step of a row that breaks no rule. -/
theorem one_read (hp : Pr p) {x : In4} {k : Nat} {r : List Int} (D : DidM p val x k r) (h0 : x.op ≠ 0) {m : List (Int × Int)} (hm : Good val m) (_hk : (k : Int) < p) :
    RdOk val (goesK p r k x % p) (fpK p r k x % p) (apK p r k x % p) (rvK r k x % p) ((Ms.mk k (nth r 0 % p) (nth r 1 % p) (nth r 2 % p) m []).one p x) := by
  have h2p := hp.two
  obtain ⟨hc, hd, he⟩ := D
  have c0 := hc 0 (by omega)
  have c1 := hc 1 (by omega)
  have c2 := hc 2 (by omega)
  clear hc
  simp only [Nat.add_zero, Nat.reduceAdd] at c0 c1 c2
  have n7 := nm h2p (nth r 7)
  have n8 := nm h2p (nth r 8)
  have n9 := nm h2p (nth r 9)
  unfold Ms.one
  split
  · rename_i hcm
    have hop : x.op = 1 ∨ x.op = 2 ∨ x.op = 3 ∨ x.op = 4 ∨ x.op = 6 := by simp [isCmp] at hcm; omega
    have k0 : cellK p r 0 k x = fadd p (nth r 0) x.a := by rcases hop with h | h | h | h | h <;> simp [cellK, cellsK, h]
    have k1 : cellK p r 1 k x = fadd p (nth r 0) x.b := by rcases hop with h | h | h | h | h <;> simp [cellK, cellsK, h]
    have k2 : cellK p r 2 k x = fadd p (nth r 0) x.c := by rcases hop with h | h | h | h | h <;> simp [cellK, cellsK, h]
    rw [k0, fadd_m] at c0
    rw [k1, fadd_m] at c1
    rw [k2, fadd_m] at c2
    have g1 : goesK p r k x % p = fadd p k 1 := by rcases hop with h | h | h | h | h <;> simp [goesK, h, fadd]
    have g2 : fpK p r k x % p = nth r 0 % p := by rcases hop with h | h | h | h | h <;> simp [fpK, h]
    have g3 : apK p r k x % p = nth r 1 % p := by rcases hop with h | h | h | h | h <;> simp [apK, h]
    have g4 : rvK r k x % p = nth r 2 % p := by rcases hop with h | h | h | h | h <;> simp [rvK, h]
    rw [g1, g2, g3, g4]
    have hrk : reck p x.op (nth r 7 % p) (nth r 8 % p) = nth r 9 % p ∧ ¬ (x.op = 4 ∧ nth r 8 % p = 0) := by
      rcases hop with h | h | h | h | h
      · simp only [doesK, h, if_true, fsub_m] at hd
        refine ⟨?_, by omega⟩
        simp only [reck, h, if_true, fadd_ml, fadd_mr]
        have := fsub_eq hd
        rwa [fadd_m] at this
      · simp only [doesK, h, if_true] at hd
        simp only [show ¬ (2 : Int) = 1 by omega, if_false, fsub_m] at hd
        refine ⟨?_, by omega⟩
        simp only [reck, h, if_true, fsub_ml, fsub_mr, show ¬ (2 : Int) = 1 by omega, if_false]
        have := fsub_eq hd
        rwa [fsub_m] at this
      · simp only [doesK, h, if_true] at hd
        simp only [show ¬ (3 : Int) = 1 by omega, show ¬ (3 : Int) = 2 by omega, if_false, fsub_m] at hd
        refine ⟨?_, by omega⟩
        simp only [reck, h, if_true, fmul_ml, fmul_mr, show ¬ (3 : Int) = 1 by omega, show ¬ (3 : Int) = 2 by omega, if_false]
        have := fsub_eq hd
        rwa [fmul_m] at this
      · simp only [doesK, moreK, h, if_true, fsub_m, show ¬ (4 : Int) = 1 by omega, show ¬ (4 : Int) = 2 by omega, show ¬ (4 : Int) = 3 by omega, if_false] at hd he
        have hne : ¬ nth r 8 % p = 0 := fun e => by
          have h1 := fsub_eq he
          rw [fmul_m, ← fmul_mr, e, fmul_zero_r, Int.emod_eq_of_lt (by omega) (by omega)] at h1
          omega
        refine ⟨?_, fun hh => hne hh.2⟩
        simp only [reck, h, if_true, show ¬ (4 : Int) = 1 by omega, show ¬ (4 : Int) = 2 by omega, show ¬ (4 : Int) = 3 by omega, if_false]
        have h1 := fsub_eq hd
        rw [fmul_m] at h1
        exact div_of hp n9 (not_dvd n8 hne) (by rw [fmul_ml, fmul_mr]; exact h1)
      · simp only [doesK, moreK, h, if_true, fsub_m, fmul_m, show ¬ (6 : Int) = 1 by omega, show ¬ (6 : Int) = 2 by omega, show ¬ (6 : Int) = 3 by omega, show ¬ (6 : Int) = 4 by omega, show ¬ (6 : Int) = 5 by omega, if_false] at hd he
        refine ⟨?_, by omega⟩
        simp only [reck, h, show ¬ (6 : Int) = 1 by omega, show ¬ (6 : Int) = 2 by omega, show ¬ (6 : Int) = 3 by omega, show ¬ (6 : Int) = 4 by omega, if_false]
        have h1 := fsub_eq hd
        rw [fmul_m, fsub_m] at h1
        exact same_of hp n7 n8 n9 (by rw [fsub_ml, fsub_mr, fsub_mr]; exact h1) (by rw [fmul_ml, fsub_ml, fsub_mr]; exact he)
    unfold Ms.comp
    simp only [fadd_ml]
    rcases look_val (pc := k) (fp := nth r 0 % p) (ap := nth r 1 % p) (rv := nth r 2 % p) (c := []) hm (fadd p (nth r 0) x.a) with e1 | ⟨a1, e1⟩
    · rw [e1]; exact .inl rfl
    rw [e1, c0]
    simp only [Rs.bind, fadd_ml]
    rcases look_val (pc := k) (fp := nth r 0 % p) (ap := nth r 1 % p) (rv := nth r 2 % p) (c := a1) hm (fadd p (nth r 0) x.b) with e2 | ⟨a2, e2⟩
    · rw [e2]; exact .inl rfl
    rw [e2, c1]
    simp only [fadd_ml]
    rw [if_neg hrk.2, hrk.1]
    obtain ⟨m3, a3, e3, hm3⟩ := tell_val (pc := k) (fp := nth r 0 % p) (ap := nth r 1 % p) (rv := nth r 2 % p) (c := a2) hm c2
    rw [e3]
    exact .inr ⟨0, m3, a3, rfl, hm3⟩
  rename_i hncm
  split
  · rename_i h
    simp only [cellK, cellsK, h] at c0
    simp at c0
    rw [fadd_m] at c0
    simp only [doesK, h] at hd
    simp at hd
    rw [fsub_m] at hd
    have g1 : goesK p r k x % p = fadd p k 1 := by simp [goesK, h, fadd]
    have g2 : fpK p r k x % p = nth r 0 % p := by simp [fpK, h]
    have g3 : apK p r k x % p = nth r 1 % p := by simp [apK, h]
    have g4 : rvK r k x % p = nth r 2 % p := by simp [rvK, h]
    rw [g1, g2, g3, g4, show fof p x.b = nth r 7 % p from (fsub_eq hd).symm]
    simp only [fadd_ml]
    obtain ⟨m3, a3, e3, hm3⟩ := tell_val (pc := k) (fp := nth r 0 % p) (ap := nth r 1 % p) (rv := nth r 2 % p) (c := []) hm c0
    rw [e3]
    exact .inr ⟨0, m3, a3, rfl, hm3⟩
  split
  · rename_i h
    simp only [cellK, cellsK, h] at c0 c1
    simp at c0 c1
    rw [fadd_m] at c0 c1
    simp only [doesK, h] at hd
    simp at hd
    rw [fsub_m] at hd
    have g1 : goesK p r k x % p = fadd p k 1 := by simp [goesK, h, fadd]
    have g2 : fpK p r k x % p = nth r 0 % p := by simp [fpK, h]
    have g3 : apK p r k x % p = nth r 1 % p := by simp [apK, h]
    have g4 : rvK r k x % p = nth r 2 % p := by simp [rvK, h]
    rw [g1, g2, g3, g4]
    simp only [fadd_ml]
    rcases look_val (pc := k) (fp := nth r 0 % p) (ap := nth r 1 % p) (rv := nth r 2 % p) (c := []) hm (fadd p (nth r 0) x.a) with e1 | ⟨a1, e1⟩
    · rw [e1]; exact .inl rfl
    rw [e1, c0]
    simp only [Rs.bind]
    rcases look_val (pc := k) (fp := nth r 0 % p) (ap := nth r 1 % p) (rv := nth r 2 % p) (c := a1) hm (fadd p (nth r 0) x.b) with e2 | ⟨a2, e2⟩
    · rw [e2]; exact .inl rfl
    rw [e2, c1]
    simp only
    rw [if_pos (fsub_eq hd)]
    exact .inr ⟨0, m, a2, rfl, hm⟩
  split
  · rename_i h
    have g1 : goesK p r k x % p = fof p x.a := by simp [goesK, h, fof]
    have g2 : fpK p r k x % p = nth r 0 % p := by simp [fpK, h]
    have g3 : apK p r k x % p = nth r 1 % p := by simp [apK, h]
    have g4 : rvK r k x % p = nth r 2 % p := by simp [rvK, h]
    rw [g1, g2, g3, g4]
    exact .inr ⟨0, m, [], rfl, hm⟩
  split
  · rename_i h
    simp only [cellK, cellsK, h] at c0
    simp at c0
    rw [fadd_m] at c0
    simp only [doesK, h] at hd
    simp at hd
    rw [fmul_m] at hd
    have g1 : goesK p r k x % p = if nth r 7 % p = 0 then fof p x.b else fadd p k 1 := by
      simp only [goesK, h]
      simp
      by_cases e : nth r 7 % p = 0
      · have e1 : fmul p (nth r 11) (nth r 7) = 0 := by rw [← fmul_mr, e, fmul_zero_r]
        rw [if_pos e, e1]
        simp [fadd, fmul, fsub, fof, one_mod h2p]
      · have e1 : fsub p 1 (fmul p (nth r 11) (nth r 7)) = 0 := by
          unfold fmul at hd
          rcases hp.euclid (Int.dvd_of_emod_eq_zero hd) with h1 | h1
          · exact absurd (Int.emod_eq_zero_of_dvd h1) e
          · have := Int.emod_eq_zero_of_dvd h1
            rwa [show (fsub p 1 (nth r 11 * nth r 7 % p)) = fsub p 1 (fmul p (nth r 11) (nth r 7)) from rfl, fsub_m] at this
        have e2 := (fsub_eq e1).symm
        rw [fmul_m, Int.emod_eq_of_lt (a := 1) (by omega) (by omega)] at e2
        rw [if_neg e, e1, e2]
        simp [fadd, fmul]
    have g2 : fpK p r k x % p = nth r 0 % p := by simp [fpK, h]
    have g3 : apK p r k x % p = nth r 1 % p := by simp [apK, h]
    have g4 : rvK r k x % p = nth r 2 % p := by simp [rvK, h]
    rw [g1, g2, g3, g4]
    simp only [fadd_ml]
    rcases look_val (pc := k) (fp := nth r 0 % p) (ap := nth r 1 % p) (rv := nth r 2 % p) (c := []) hm (fadd p (nth r 0) x.a) with e1 | ⟨a1, e1⟩
    · rw [e1]; exact .inl rfl
    rw [e1, c0]
    exact .inr ⟨0, m, a1, rfl, hm⟩
  split
  · rename_i h
    simp only [cellK, cellsK, h] at c0 c1
    simp at c0 c1
    rw [fadd_m] at c1
    simp only [doesK, moreK, h] at hd he
    simp at hd he
    rw [fsub_m] at hd he
    have g1 : goesK p r k x % p = fof p x.a := by simp [goesK, h, fof]
    have g2 : fpK p r k x % p = fadd p (nth r 1) 2 := by simp [fpK, h, fadd]
    have g3 : apK p r k x % p = fadd p (fadd p (nth r 1) 2) x.b := by simp [apK, h, fadd]
    have g4 : rvK r k x % p = nth r 2 % p := by simp [rvK, h]
    rw [g1, g2, g3, g4]
    unfold Ms.call
    simp only
    obtain ⟨m1, a1, e1, hm1⟩ := tell_val (pc := k) (fp := nth r 0 % p) (ap := nth r 1 % p) (rv := nth r 2 % p) (c := []) hm (c0.trans (fsub_eq hd))
    rw [e1]
    simp only [Rs.bind, fadd_ml]
    obtain ⟨m2, a2, e2, hm2⟩ := tell_val (pc := k) (fp := nth r 0 % p) (ap := nth r 1 % p) (rv := nth r 2 % p) (c := a1) hm1 (c1.trans (fsub_eq he))
    rw [show fadd p (k : Int) 1 = ((k : Int) + 1) % p from rfl, e2]
    simp only [fadd_ml]
    exact .inr ⟨0, m2, a2, rfl, hm2⟩
  split
  · rename_i h
    simp only [cellK, cellsK, h] at c0 c1 c2
    simp at c0 c1 c2
    rw [fsub_m] at c0 c1
    rw [fadd_m] at c2
    have g1 : goesK p r k x % p = nth r 8 % p := by simp [goesK, h]
    have g2 : fpK p r k x % p = nth r 7 % p := by simp [fpK, h]
    have g3 : apK p r k x % p = nth r 1 % p := by simp [apK, h]
    have g4 : rvK r k x % p = nth r 9 % p := by simp [rvK, h]
    rw [g1, g2, g3, g4]
    unfold Ms.back
    simp only [fadd_ml]
    have f2 : fadd p (nth r 0) (-2) = fsub p (nth r 0) 2 := by simp [fadd, fsub, Int.sub_eq_add_neg]
    have f1 : fadd p (nth r 0) (-1) = fsub p (nth r 0) 1 := by simp [fadd, fsub, Int.sub_eq_add_neg]
    rw [f2]
    rcases look_val (pc := k) (fp := nth r 0 % p) (ap := nth r 1 % p) (rv := nth r 2 % p) (c := []) hm (fsub p (nth r 0) 2) with e1 | ⟨a1, e1⟩
    · rw [e1]; exact .inl rfl
    rw [e1, c0]
    simp only [Rs.bind, fadd_ml]
    rw [f1]
    rcases look_val (pc := k) (fp := nth r 0 % p) (ap := nth r 1 % p) (rv := nth r 2 % p) (c := a1) hm (fsub p (nth r 0) 1) with e2 | ⟨a2, e2⟩
    · rw [e2]; exact .inl rfl
    rw [e2, c1]
    simp only [fadd_ml]
    rcases look_val (pc := k) (fp := nth r 0 % p) (ap := nth r 1 % p) (rv := nth r 2 % p) (c := a2) hm (fadd p (nth r 0) x.a) with e3 | ⟨a3, e3⟩
    · rw [e3]; exact .inl rfl
    rw [e3, c2]
    exact .inr ⟨0, m, a3, rfl, hm⟩
  split
  · rename_i h
    simp only [cellK, cellsK, h] at c0
    simp at c0
    rw [fadd_m] at c0
    simp only [doesK, h] at hd
    simp at hd
    rw [fsub_m] at hd
    have g1 : goesK p r k x % p = fadd p k 1 := by simp [goesK, h, fadd]
    have g2 : fpK p r k x % p = nth r 0 % p := by simp [fpK, h]
    have g3 : apK p r k x % p = nth r 1 % p := by simp [apK, h]
    have g4 : rvK r k x % p = nth r 2 % p := by simp [rvK, h]
    rw [g1, g2, g3, g4]
    simp only [fadd_ml]
    obtain ⟨m3, a3, e3, hm3⟩ := tell_val (pc := k) (fp := nth r 0 % p) (ap := nth r 1 % p) (rv := nth r 2 % p) (c := []) hm (c0.trans (fsub_eq hd))
    rw [e3]
    exact .inr ⟨0, m3, a3, rfl, hm3⟩
  split
  · rename_i h
    simp only [cellK, cellsK, h] at c0 c1
    simp at c0 c1
    rw [fadd_m] at c0 c1
    simp only [doesK, h] at hd
    simp at hd
    rw [fsub_m] at hd
    have g1 : goesK p r k x % p = fadd p k 1 := by simp [goesK, h, fadd]
    have g2 : fpK p r k x % p = nth r 0 % p := by simp [fpK, h]
    have g3 : apK p r k x % p = nth r 1 % p := by simp [apK, h]
    have g4 : rvK r k x % p = nth r 2 % p := by simp [rvK, h]
    rw [g1, g2, g3, g4]
    simp only [fadd_ml]
    rcases look_val (pc := k) (fp := nth r 0 % p) (ap := nth r 1 % p) (rv := nth r 2 % p) (c := []) hm (fadd p (nth r 0) x.a) with e1 | ⟨a1, e1⟩
    · rw [e1]; exact .inl rfl
    rw [e1, c0]
    simp only [Rs.bind]
    obtain ⟨m3, a3, e3, hm3⟩ := tell_val (pc := k) (fp := nth r 0 % p) (ap := nth r 1 % p) (rv := nth r 2 % p) (c := a1) hm (c1.trans (fsub_eq hd).symm)
    rw [e3]
    exact .inr ⟨0, m3, a3, rfl, hm3⟩
  · exfalso
    have hn : ¬ (x.op = 1 ∨ x.op = 2 ∨ x.op = 3 ∨ x.op = 4 ∨ x.op = 6) := by simp [isCmp] at hncm; omega
    unfold doesK at hd
    simp only [not_or] at hn
    simp only [*, if_false, or_self] at hd
    rw [Int.emod_eq_of_lt (by omega) (by omega)] at hd
    omega
end
end Go.Att
