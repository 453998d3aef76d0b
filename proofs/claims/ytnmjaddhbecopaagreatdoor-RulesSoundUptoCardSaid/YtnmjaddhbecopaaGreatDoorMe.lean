/- The document's machine, plain: its step against the program's; its calls whatever its state. -/
import Derived.Test.YtnmjaddhbecopaaGreatDoorMd
import Derived.Test.YtnmjaddhbecopaaGreatDoorM7
namespace Go.Att
open Go.RowKit
/-- The document's machine: a state, and its error. -/
structure Ds where
  s : Ms
  er : Int
def Ds.lookV (d : Ds) (i : Int) : Int := if d.er ≠ 0 then 0 else (lk d.s.mem i).getD 0
def Ds.look (d : Ds) (i : Int) : Ds := if d.er ≠ 0 then d else match lk d.s.mem i with
  | none => ⟨d.s, 10⟩
  | some v => ⟨d.s.noted i v, 0⟩
def Ds.tell (p : Int) (d : Ds) (i x : Int) : Ds := if d.er ≠ 0 then d else if lk d.s.mem i = none ∨ lk d.s.mem i = some (fof p x) then ⟨d.s.told i (fof p x), 0⟩ else ⟨d.s, 7⟩
def Ds.must (d : Ds) (c : Bool) : Ds := if d.er = 0 ∧ c = false then ⟨d.s, 7⟩ else d
def Ds.reck (d : Ds) (op y : Int) : Ds := if op = 4 then d.must (y != 0) else d
/-- It may go on. -/
structure Dok (p : Int) (d : Ds) (k m : Nat) : Prop where
  acc : d.s.acc.length ≤ k
  mem : d.s.mem.length ≤ m
  er : d.er = 0 ∨ d.er = 7 ∨ d.er = 10
section
variable {p : Int} {d : Ds} {k m : Nat}
theorem Dok.look (h : Dok p d k m) (i : Int) : Dok p (d.look i) (k + 1) m := by
  unfold Ds.look
  split
  · exact ⟨by have := h.acc; omega, h.mem, h.er⟩
  · cases lk d.s.mem i with
    | none => exact ⟨by have := h.acc; dsimp only; omega, h.mem, .inr (.inr rfl)⟩
    | some v => exact ⟨by have := h.acc; simp [Ms.noted]; omega, h.mem, .inl rfl⟩
theorem told_len (s : Ms) (i x : Int) : (s.told i x).mem.length ≤ s.mem.length + 1 := by
  unfold Ms.told
  dsimp only
  split <;> simp
theorem Dok.tell (h : Dok p d k m) (i x : Int) : Dok p (d.tell p i x) (k + 1) (m + 1) := by
  unfold Ds.tell
  split
  · exact ⟨by have := h.acc; omega, by have := h.mem; omega, h.er⟩
  · split
    · exact ⟨by have := h.acc; simp [Ms.told]; omega, by have := h.mem; have := told_len d.s i (fof p x); dsimp only; omega, .inl rfl⟩
    · exact ⟨by have := h.acc; dsimp only; omega, by have := h.mem; dsimp only; omega, .inr (.inl rfl)⟩
theorem Dok.must (h : Dok p d k m) (c : Bool) : Dok p (d.must c) k m := by
  unfold Ds.must
  split
  · exact ⟨h.acc, h.mem, .inr (.inl rfl)⟩
  · exact h
theorem Dok.reck (h : Dok p d k m) (op y : Int) : Dok p (d.reck op y) k m := by
  unfold Ds.reck
  split
  · exact h.must _
  · exact h
theorem Dok.le (h : Dok p d k m) {k' m' : Nat} (h1 : k ≤ k') (h2 : m ≤ m') : Dok p d k' m' := ⟨Nat.le_trans h.acc h1, Nat.le_trans h.mem h2, h.er⟩
end
/-- What a step of the document's comes to, against the program's. -/
def Same (r : Rs) (s : Ms) (pc fp ap rv : Int) (d : Ds) : Prop := match r with
  | .go _ s' => d.er = 0 ∧ d.s = { s with mem := s'.mem, acc := s'.acc } ∧ pc = s'.pc ∧ fp = s'.fp ∧ ap = s'.ap ∧ rv = s'.rv
  | .no k => d.er = k ∧ (k = 7 ∨ k = 10)
section
variable {p : Int} {s : Ms}
theorem fof_small {p x : Int} (h : 0 ≤ x ∧ x < p) : fof p x = x := Int.emod_eq_of_lt h.1 h.2
theorem fof_fof (p x : Int) : fof p (fof p x) = fof p x := Int.emod_emod_of_dvd _ (Int.dvd_refl _)
theorem dlook_d0 (s : Ms) (i : Int) : (Ds.mk s 0).look i = match lk s.mem i with | none => ⟨s, 10⟩ | some v => ⟨s.noted i v, 0⟩ := rfl
theorem dlookV_d0 (s : Ms) (i : Int) : (Ds.mk s 0).lookV i = (lk s.mem i).getD 0 := rfl
theorem dlook_er {e : Int} (h : e ≠ 0) (i : Int) : (Ds.mk s e).look i = ⟨s, e⟩ := by unfold Ds.look; rw [if_pos h]
theorem dlookV_er {e : Int} (h : e ≠ 0) (i : Int) : (Ds.mk s e).lookV i = 0 := by unfold Ds.lookV; rw [if_pos h]
theorem dtell_er {e : Int} (h : e ≠ 0) (i x : Int) : (Ds.mk s e).tell p i x = ⟨s, e⟩ := by unfold Ds.tell; rw [if_pos h]
theorem dmust_er {e : Int} (h : e ≠ 0) (c : Bool) : (Ds.mk s e).must c = ⟨s, e⟩ := by unfold Ds.must; rw [if_neg (fun hh => h hh.1)]
theorem dreck_er {e : Int} (h : e ≠ 0) (op y : Int) : (Ds.mk s e).reck op y = ⟨s, e⟩ := by
  unfold Ds.reck
  split
  · exact dmust_er h _
  · rfl
theorem dtell_d0_yes {i x y : Int} (hy : fof p x = y) (h : s.may i y) : (Ds.mk s 0).tell p i x = ⟨s.told i y, 0⟩ := by unfold Ds.tell; rw [if_neg (by simp), hy]; exact if_pos h
theorem dtell_d0_no {i x y : Int} (hy : fof p x = y) (h : ¬ s.may i y) : (Ds.mk s 0).tell p i x = ⟨s, 7⟩ := by unfold Ds.tell; rw [if_neg (by simp), hy]; exact if_neg h
/-- Told, in the document's words and in the program's. -/
theorem tell_same {i x y pc : Int} (hy : fof p x = y) {t : Ms} (r : Rs) (hr : r = (s.tell i y).bind (Ms.to pc)) (ht : t.pc = s.pc ∧ t.fp = s.fp ∧ t.ap = s.ap ∧ t.rv = s.rv) : Same r t pc s.fp s.ap s.rv ((Ds.mk s 0).tell p i x) := by
  subst hr
  obtain ⟨h1, h2, h3, h4⟩ := ht
  by_cases h : s.may i y
  · rw [dtell_d0_yes hy h, tell_yes_eq h]
    refine ⟨rfl, ?_, rfl, rfl, rfl, rfl⟩
    cases t; dsimp only at *; subst h1 h2 h3 h4; rfl
  · rw [dtell_d0_no hy h, tell_no_eq h]
    exact ⟨rfl, .inl rfl⟩
theorem fof_reck (hp : 2 ≤ p) (op x y : Int) : fof p (reck p op x y) = reck p op x y := fof_small (reck_bd hp op x y)
theorem same_comp (hp : 2 ≤ p) (_h : Okm p s) (x : In4) (hop : isCmp x.op = true) :
    Same (s.one p x) s (fadd p s.pc 1) s.fp s.ap s.rv ((((((Ds.mk s 0).look (fadd p s.fp x.a)).look (fadd p s.fp x.b)).reck x.op (((Ds.mk s 0).look (fadd p s.fp x.a)).lookV (fadd p s.fp x.b)))).tell p (fadd p s.fp x.c) (reck p x.op ((Ds.mk s 0).lookV (fadd p s.fp x.a)) (((Ds.mk s 0).look (fadd p s.fp x.a)).lookV (fadd p s.fp x.b)))) := by
  rw [one_cmp hop]
  cases ha : lk s.mem (fadd p s.fp x.a) with
  | none =>
    have e : (Ds.mk s 0).look (fadd p s.fp x.a) = ⟨s, 10⟩ := by rw [dlook_d0, ha]
    rw [e, dlook_er (by decide), dreck_er (by decide), dtell_er (by decide), comp_no1 (look_no_eq ha)]
    exact ⟨rfl, .inr rfl⟩
  | some u =>
    have e : (Ds.mk s 0).look (fadd p s.fp x.a) = ⟨s.noted (fadd p s.fp x.a) u, 0⟩ := by rw [dlook_d0, ha]
    have ev : (Ds.mk s 0).lookV (fadd p s.fp x.a) = u := by rw [dlookV_d0, ha]; rfl
    rw [e, ev]
    cases hb : lk s.mem (fadd p s.fp x.b) with
    | none =>
      have e2 : (Ds.mk (s.noted (fadd p s.fp x.a) u) 0).look (fadd p s.fp x.b) = ⟨s.noted (fadd p s.fp x.a) u, 10⟩ := by rw [dlook_d0]; show (match lk s.mem (fadd p s.fp x.b) with | none => _ | some v => _) = _; rw [hb]
      rw [e2, dreck_er (by decide), dtell_er (by decide), comp_no2 ha (look_no_eq (s := s.noted (fadd p s.fp x.a) u) hb)]
      exact ⟨rfl, .inr rfl⟩
    | some v =>
      have e2 : (Ds.mk (s.noted (fadd p s.fp x.a) u) 0).look (fadd p s.fp x.b) = ⟨(s.noted (fadd p s.fp x.a) u).noted (fadd p s.fp x.b) v, 0⟩ := by rw [dlook_d0]; show (match lk s.mem (fadd p s.fp x.b) with | none => _ | some v => _) = _; rw [hb]
      have ev2 : (Ds.mk (s.noted (fadd p s.fp x.a) u) 0).lookV (fadd p s.fp x.b) = v := by rw [dlookV_d0]; show (lk s.mem (fadd p s.fp x.b)).getD 0 = v; rw [hb]; rfl
      rw [e2, ev2, comp_yes ha hb]
      by_cases hz : x.op = 4 ∧ v = 0
      · rw [if_pos hz]
        obtain ⟨h4, rfl⟩ := hz
        have e3 : (Ds.mk ((s.noted (fadd p s.fp x.a) u).noted (fadd p s.fp x.b) 0) 0).reck x.op 0 = ⟨(s.noted (fadd p s.fp x.a) u).noted (fadd p s.fp x.b) 0, 7⟩ := by unfold Ds.reck; rw [if_pos h4]; rfl
        rw [e3, dtell_er (by decide)]
        exact ⟨rfl, .inl rfl⟩
      · rw [if_neg hz]
        have e3 : (Ds.mk ((s.noted (fadd p s.fp x.a) u).noted (fadd p s.fp x.b) v) 0).reck x.op v = ⟨(s.noted (fadd p s.fp x.a) u).noted (fadd p s.fp x.b) v, 0⟩ := by
          unfold Ds.reck
          split
          · rename_i h4
            have hv : v ≠ 0 := fun e => hz ⟨h4, e⟩
            unfold Ds.must
            rw [if_neg (by simp [hv])]
          · rfl
        rw [e3]
        exact tell_same (fof_reck hp _ _ _) (t := s) _ rfl ⟨rfl, rfl, rfl, rfl⟩
theorem same_5 (a b c : Int) : Same (s.one p ⟨5, a, b, c⟩) s (fadd p s.pc 1) s.fp s.ap s.rv ((Ds.mk s 0).tell p (fadd p s.fp a) b) := by
  rw [one_5]; exact tell_same rfl (t := s) _ rfl ⟨rfl, rfl, rfl, rfl⟩
theorem same_12 (h : Okm p s) (a b c : Int) : Same (s.one p ⟨12, a, b, c⟩) s (fadd p s.pc 1) s.fp s.ap s.rv ((Ds.mk s 0).tell p (fadd p s.fp a) s.rv) := by
  rw [one_12]; exact tell_same (fof_small h.rv) (t := s) _ rfl ⟨rfl, rfl, rfl, rfl⟩
theorem same_7 (a b c : Int) : Same (s.one p ⟨7, a, b, c⟩) s (fadd p s.pc 1) s.fp s.ap s.rv ((((Ds.mk s 0).look (fadd p s.fp a)).look (fadd p s.fp b)).must ((Ds.mk s 0).lookV (fadd p s.fp a) == ((Ds.mk s 0).look (fadd p s.fp a)).lookV (fadd p s.fp b))) := by
  rw [one_7]
  cases ha : lk s.mem (fadd p s.fp a) with
  | none =>
    have e : (Ds.mk s 0).look (fadd p s.fp a) = ⟨s, 10⟩ := by rw [dlook_d0, ha]
    rw [e, dlook_er (by decide), dmust_er (by decide), look_no_eq ha]
    exact ⟨rfl, .inr rfl⟩
  | some u =>
    have e : (Ds.mk s 0).look (fadd p s.fp a) = ⟨s.noted (fadd p s.fp a) u, 0⟩ := by rw [dlook_d0, ha]
    have ev : (Ds.mk s 0).lookV (fadd p s.fp a) = u := by rw [dlookV_d0, ha]; rfl
    rw [e, ev, bind_yes (look_yes_eq ha)]
    cases hb : lk s.mem (fadd p s.fp b) with
    | none =>
      have e2 : (Ds.mk (s.noted (fadd p s.fp a) u) 0).look (fadd p s.fp b) = ⟨s.noted (fadd p s.fp a) u, 10⟩ := by rw [dlook_d0]; show (match lk s.mem (fadd p s.fp b) with | none => _ | some v => _) = _; rw [hb]
      rw [e2, dmust_er (by decide), look_no_eq (s := s.noted (fadd p s.fp a) u) hb]
      exact ⟨rfl, .inr rfl⟩
    | some v =>
      have e2 : (Ds.mk (s.noted (fadd p s.fp a) u) 0).look (fadd p s.fp b) = ⟨(s.noted (fadd p s.fp a) u).noted (fadd p s.fp b) v, 0⟩ := by rw [dlook_d0]; show (match lk s.mem (fadd p s.fp b) with | none => _ | some v => _) = _; rw [hb]
      have ev2 : (Ds.mk (s.noted (fadd p s.fp a) u) 0).lookV (fadd p s.fp b) = v := by rw [dlookV_d0]; show (lk s.mem (fadd p s.fp b)).getD 0 = v; rw [hb]; rfl
      rw [e2, ev2, bind_yes (look_yes_eq (s := s.noted (fadd p s.fp a) u) hb)]
      by_cases huv : u = v
      · rw [if_pos huv]
        subst huv
        simp [Ds.must, Same, Ms.to, Ms.noted]
      · rw [if_neg huv]
        simp [Ds.must, Same, huv]
theorem same_8 (a b c : Int) : Same (s.one p ⟨8, a, b, c⟩) s (fof p a) s.fp s.ap s.rv (Ds.mk s 0) := by
  rw [one_8]; exact ⟨rfl, rfl, rfl, rfl, rfl, rfl⟩
theorem same_9 (a b c : Int) : Same (s.one p ⟨9, a, b, c⟩) s (if (Ds.mk s 0).lookV (fadd p s.fp a) = 0 then fof p b else fadd p s.pc 1) s.fp s.ap s.rv ((Ds.mk s 0).look (fadd p s.fp a)) := by
  rw [one_9]
  cases ha : lk s.mem (fadd p s.fp a) with
  | none =>
    have e : (Ds.mk s 0).look (fadd p s.fp a) = ⟨s, 10⟩ := by rw [dlook_d0, ha]
    rw [e, look_no_eq ha]
    exact ⟨rfl, .inr rfl⟩
  | some u =>
    have e : (Ds.mk s 0).look (fadd p s.fp a) = ⟨s.noted (fadd p s.fp a) u, 0⟩ := by rw [dlook_d0, ha]
    have ev : (Ds.mk s 0).lookV (fadd p s.fp a) = u := by rw [dlookV_d0, ha]; rfl
    rw [e, ev, bind_yes (look_yes_eq ha)]
    exact ⟨rfl, rfl, rfl, rfl, rfl, rfl⟩
theorem fof_pc (p x : Int) (_hp : 2 ≤ p) : fof p (x + 1) = fadd p x 1 := rfl
theorem same_10 (hp : 2 ≤ p) (h : Okm p s) (a b c : Int) : Same (s.one p ⟨10, a, b, c⟩) s (fof p a) (fadd p s.ap 2) (fadd p (fadd p s.ap 2) b) s.rv (((Ds.mk s 0).tell p s.ap s.fp).tell p (fadd p s.ap 1) (s.pc + 1)) := by
  rw [one_10]
  by_cases h1 : s.may s.ap s.fp
  · rw [dtell_d0_yes (fof_small h.fp) h1]
    by_cases h2 : (s.told s.ap s.fp).may (fadd p s.ap 1) (fadd p s.pc 1)
    · rw [dtell_d0_yes (fof_pc p s.pc hp) h2, call_yes h1 h2]
      exact ⟨rfl, rfl, rfl, rfl, rfl, rfl⟩
    · rw [dtell_d0_no (fof_pc p s.pc hp) h2, call_no2 h1 h2]
      exact ⟨rfl, .inl rfl⟩
  · rw [dtell_d0_no (fof_small h.fp) h1, dtell_er (by decide), call_no1 h1]
    exact ⟨rfl, .inl rfl⟩
theorem fsub_add (p x k : Int) : fsub p x k = fadd p x (-k) := by unfold fsub fadd; rw [Int.sub_eq_add_neg]
theorem same_11 (a b c : Int) : Same (s.one p ⟨11, a, b, c⟩) s (((Ds.mk s 0).look (fsub p s.fp 2)).lookV (fsub p s.fp 1)) ((Ds.mk s 0).lookV (fsub p s.fp 2)) s.ap ((((Ds.mk s 0).look (fsub p s.fp 2)).look (fsub p s.fp 1)).lookV (fadd p s.fp a)) ((((Ds.mk s 0).look (fsub p s.fp 2)).look (fsub p s.fp 1)).look (fadd p s.fp a)) := by
  rw [one_11, fsub_add, fsub_add]
  cases h1 : lk s.mem (fadd p s.fp (-2)) with
  | none =>
    have e : (Ds.mk s 0).look (fadd p s.fp (-2)) = ⟨s, 10⟩ := by rw [dlook_d0, h1]
    rw [e, dlook_er (by decide), dlook_er (by decide), back_no1 h1]
    exact ⟨rfl, .inr rfl⟩
  | some f =>
    have e : (Ds.mk s 0).look (fadd p s.fp (-2)) = ⟨s.noted (fadd p s.fp (-2)) f, 0⟩ := by rw [dlook_d0, h1]
    have ev : (Ds.mk s 0).lookV (fadd p s.fp (-2)) = f := by rw [dlookV_d0, h1]; rfl
    rw [e, ev]
    cases h2 : lk s.mem (fadd p s.fp (-1)) with
    | none =>
      have e2 : (Ds.mk (s.noted (fadd p s.fp (-2)) f) 0).look (fadd p s.fp (-1)) = ⟨s.noted (fadd p s.fp (-2)) f, 10⟩ := by rw [dlook_d0]; show (match lk s.mem (fadd p s.fp (-1)) with | none => _ | some v => _) = _; rw [h2]
      rw [e2, dlook_er (by decide), back_no2 h1 h2]
      exact ⟨rfl, .inr rfl⟩
    | some q =>
      have e2 : (Ds.mk (s.noted (fadd p s.fp (-2)) f) 0).look (fadd p s.fp (-1)) = ⟨(s.noted (fadd p s.fp (-2)) f).noted (fadd p s.fp (-1)) q, 0⟩ := by rw [dlook_d0]; show (match lk s.mem (fadd p s.fp (-1)) with | none => _ | some v => _) = _; rw [h2]
      have ev2 : (Ds.mk (s.noted (fadd p s.fp (-2)) f) 0).lookV (fadd p s.fp (-1)) = q := by rw [dlookV_d0]; show (lk s.mem (fadd p s.fp (-1))).getD 0 = q; rw [h2]; rfl
      rw [e2, ev2]
      cases h3 : lk s.mem (fadd p s.fp a) with
      | none =>
        have e3 : (Ds.mk ((s.noted (fadd p s.fp (-2)) f).noted (fadd p s.fp (-1)) q) 0).look (fadd p s.fp a) = ⟨(s.noted (fadd p s.fp (-2)) f).noted (fadd p s.fp (-1)) q, 10⟩ := by rw [dlook_d0]; show (match lk s.mem (fadd p s.fp a) with | none => _ | some v => _) = _; rw [h3]
        rw [e3, back_no3 h1 h2 h3]
        exact ⟨rfl, .inr rfl⟩
      | some r =>
        have e3 : (Ds.mk ((s.noted (fadd p s.fp (-2)) f).noted (fadd p s.fp (-1)) q) 0).look (fadd p s.fp a) = ⟨((s.noted (fadd p s.fp (-2)) f).noted (fadd p s.fp (-1)) q).noted (fadd p s.fp a) r, 0⟩ := by rw [dlook_d0]; show (match lk s.mem (fadd p s.fp a) with | none => _ | some v => _) = _; rw [h3]
        have ev3 : (Ds.mk ((s.noted (fadd p s.fp (-2)) f).noted (fadd p s.fp (-1)) q) 0).lookV (fadd p s.fp a) = r := by rw [dlookV_d0]; show (lk s.mem (fadd p s.fp a)).getD 0 = r; rw [h3]; rfl
        rw [e3, ev3, back_yes h1 h2 h3]
        exact ⟨rfl, rfl, rfl, rfl, rfl, rfl⟩
theorem same_13 (h : Okm p s) (a b c : Int) : Same (s.one p ⟨13, a, b, c⟩) s (fadd p s.pc 1) s.fp s.ap s.rv (((Ds.mk s 0).look (fadd p s.fp a)).tell p (fadd p (fadd p s.ap 2) b) ((Ds.mk s 0).lookV (fadd p s.fp a))) := by
  rw [one_13]
  cases ha : lk s.mem (fadd p s.fp a) with
  | none =>
    have e : (Ds.mk s 0).look (fadd p s.fp a) = ⟨s, 10⟩ := by rw [dlook_d0, ha]
    rw [e, dtell_er (by decide), look_no_eq ha]
    exact ⟨rfl, .inr rfl⟩
  | some u =>
    have e : (Ds.mk s 0).look (fadd p s.fp a) = ⟨s.noted (fadd p s.fp a) u, 0⟩ := by rw [dlook_d0, ha]
    have ev : (Ds.mk s 0).lookV (fadd p s.fp a) = u := by rw [dlookV_d0, ha]; rfl
    rw [e, ev, bind_yes (look_yes_eq ha)]
    exact tell_same (fof_small (h.val ha)) (t := s) (s := s.noted (fadd p s.fp a) u) _ rfl ⟨rfl, rfl, rfl, rfl⟩
end
end Go.Att
