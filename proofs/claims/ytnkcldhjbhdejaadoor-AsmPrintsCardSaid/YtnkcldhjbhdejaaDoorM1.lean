/- The machine, plain: cells that are told once; a step; a run. No program in sight. -/
import Derived.Test.YtnkcldhjbhdejaaDoorPl
namespace Go.Att
/-- An instruction. -/
structure In4 where
  op : Int
  a : Int
  b : Int
  c : Int
/-- The registers; what was told; what the step has looked at. -/
structure Ms where
  pc : Int
  fp : Int
  ap : Int
  rv : Int
  mem : List (Int × Int)
  acc : List (Int × Int)
/-- A number and what comes of the machine, or why it stops. -/
inductive Rs where
  | go (v : Int) (s : Ms)
  | no (e : Int)
def Rs.bind : Rs → (Int → Ms → Rs) → Rs
  | .go v s, f => f v s
  | .no e, _ => .no e
/-- What a cell was told. -/
def lk (m : List (Int × Int)) (at_ : Int) : Option Int := (m.find? fun c => c.1 == at_).map Prod.snd
def Ms.look (s : Ms) (at_ : Int) : Rs := match lk s.mem at_ with
  | none => .no 10
  | some v => .go v { s with acc := s.acc ++ [(at_, v)] }
def Ms.tell (s : Ms) (at_ is : Int) : Rs := match lk s.mem at_ with
  | some v => if v = is then .go 0 { s with acc := s.acc ++ [(at_, is)] } else .no 7
  | none => .go 0 { s with mem := s.mem ++ [(at_, is)], acc := s.acc ++ [(at_, is)] }
def isCmp (op : Int) : Bool := op == 1 || op == 2 || op == 3 || op == 4 || op == 6
def reck (p op x y : Int) : Int := if op = 1 then fadd p x y else if op = 2 then fsub p x y else if op = 3 then fmul p x y else if op = 4 then fdiv p x y else if x = y then 1 else 0
def Ms.comp (p : Int) (s : Ms) (x : In4) : Rs := (s.look (fadd p s.fp x.a)).bind fun u s => (s.look (fadd p s.fp x.b)).bind fun v s =>
  if x.op = 4 ∧ v = 0 then .no 7 else s.tell (fadd p s.fp x.c) (reck p x.op u v)
def Ms.call (p : Int) (s : Ms) (x : In4) : Rs := (s.tell s.ap s.fp).bind fun _ s => (s.tell (fadd p s.ap 1) (fadd p s.pc 1)).bind fun _ s =>
  .go 0 { s with fp := fadd p s.ap 2, ap := fadd p (fadd p s.ap 2) x.b, pc := fof p x.a }
def Ms.back (p : Int) (s : Ms) (x : In4) : Rs := (s.look (fadd p s.fp (-2))).bind fun f s => (s.look (fadd p s.fp (-1))).bind fun q s => (s.look (fadd p s.fp x.a)).bind fun r s =>
  .go 0 { s with rv := r, fp := f, pc := q }
/-- On at a place. -/
def Ms.to (n : Int) (_ : Int) (s : Ms) : Rs := .go 0 { s with pc := n }
def Ms.one (p : Int) (s : Ms) (x : In4) : Rs :=
  if isCmp x.op then (s.comp p x).bind (Ms.to (fadd p s.pc 1))
  else if x.op = 5 then (s.tell (fadd p s.fp x.a) (fof p x.b)).bind (Ms.to (fadd p s.pc 1))
  else if x.op = 7 then (s.look (fadd p s.fp x.a)).bind fun u t => (t.look (fadd p s.fp x.b)).bind fun v t => if u = v then Ms.to (fadd p s.pc 1) 0 t else .no 7
  else if x.op = 8 then Ms.to (fof p x.a) 0 s
  else if x.op = 9 then (s.look (fadd p s.fp x.a)).bind fun u t => Ms.to (if u = 0 then fof p x.b else fadd p s.pc 1) 0 t
  else if x.op = 10 then s.call p x
  else if x.op = 11 then s.back p x
  else if x.op = 12 then (s.tell (fadd p s.fp x.a) s.rv).bind (Ms.to (fadd p s.pc 1))
  else if x.op = 13 then (s.look (fadd p s.fp x.a)).bind fun u t => (t.tell (fadd p (fadd p s.ap 2) x.b) u).bind (Ms.to (fadd p s.pc 1))
  else .no 7
/-- A step, as it is noted. -/
structure Stp where
  pc : Int
  fp : Int
  ap : Int
  rv : Int
  acc : List (Int × Int)
/-- Its numbers. -/
def Stp.nums (t : Stp) : List Int := [t.pc, t.fp, t.ap, t.rv, (t.acc.getD 0 (0, 0)).1, (t.acc.getD 1 (0, 0)).1, (t.acc.getD 2 (0, 0)).1, (t.acc.getD 0 (0, 0)).2, (t.acc.getD 1 (0, 0)).2, (t.acc.getD 2 (0, 0)).2]
def Ms.note (s : Ms) (acc : List (Int × Int)) : Stp := ⟨s.pc, s.fp, s.ap, s.rv, acc⟩
def Ms.blank (s : Ms) : Ms := { s with acc := [] }
/-- What a run comes to: its steps, its outcome, what was told; or why there is none. -/
inductive Rw where
  | done (l : List Stp) (out : Int) (mem : List (Int × Int))
  | no (e : Int)
def nthI (l : List In4) (i : Nat) : In4 := l.getD i ⟨0, 0, 0, 0⟩
/-- n more steps may be. -/
def runM (p : Int) (code : List In4) : Nat → List Stp → Ms → Rw
  | 0, l, s => if (code.length : Int) ≤ s.pc then .no 7 else
      if (nthI code s.pc.toNat).op = 0 then (match s.blank.look (fadd p s.fp (nthI code s.pc.toNat).a) with
        | .no e => .no e
        | .go v s' => .done (l ++ [s.note s'.acc]) v s'.mem) else .no 8
  | n + 1, l, s => if (code.length : Int) ≤ s.pc then .no 7 else
      if (nthI code s.pc.toNat).op = 0 then (match s.blank.look (fadd p s.fp (nthI code s.pc.toNat).a) with
        | .no e => .no e
        | .go v s' => .done (l ++ [s.note s'.acc]) v s'.mem)
      else match s.blank.one p (nthI code s.pc.toNat) with
        | .no e => .no e
        | .go _ s' => runM p code n (l ++ [s.note s'.acc]) s'
def startM (p size : Int) : Ms := ⟨0, fof p 1, fof p (1 + size), 0, [(0, 0)], []⟩
def faultM (p size : Int) (n : Nat) (limit : Int) : Int := if size < 0 ∨ 65536 < size ∨ n = 0 ∨ 4096 < n ∨ p < n then 2 else if limit < 0 ∨ 16384 < limit then 3 else 0
def walkM (p size : Int) (code : List In4) (limit : Int) : Rw := if faultM p size code.length limit = 0 then runM p code limit.toNat [] (startM p size) else .no (faultM p size code.length limit)

/-- What holds of it always. -/
structure Okm (p : Int) (s : Ms) : Prop where
  pc : 0 ≤ s.pc ∧ s.pc < p
  fp : 0 ≤ s.fp ∧ s.fp < p
  ap : 0 ≤ s.ap ∧ s.ap < p
  rv : 0 ≤ s.rv ∧ s.rv < p
  mem : ∀ c ∈ s.mem, (0 ≤ c.1 ∧ c.1 < p) ∧ (0 ≤ c.2 ∧ c.2 < p)
  acc : ∀ c ∈ s.acc, lk s.mem c.1 = some c.2
theorem lk_mem {m : List (Int × Int)} {i v : Int} (h : lk m i = some v) : (i, v) ∈ m := by
  unfold lk at h
  rw [Option.map_eq_some_iff] at h
  obtain ⟨⟨a, b⟩, h1, h2⟩ := h
  have h3 := List.find?_some h1
  simp at h3 h2
  subst h3 h2
  exact List.mem_of_find?_eq_some h1
theorem lk_app (m : List (Int × Int)) (i j v : Int) : lk (m ++ [(i, v)]) j = match lk m j with | some x => some x | none => if i = j then some v else none := by
  unfold lk
  rw [List.find?_append]
  cases h : m.find? (fun c => c.1 == j) with
  | some x => simp
  | none => by_cases e : i = j <;> simp [e]
theorem lk_keep {m : List (Int × Int)} {i j v x : Int} (h : lk m j = some x) : lk (m ++ [(i, v)]) j = some x := by rw [lk_app, h]
theorem lk_new {m : List (Int × Int)} {i v : Int} (h : lk m i = none) : lk (m ++ [(i, v)]) i = some v := by rw [lk_app, h]; simp
section
variable {p : Int} {s s' : Ms} {i v x : Int}
theorem Okm.val (h : Okm p s) (hl : lk s.mem i = some v) : 0 ≤ v ∧ v < p := (h.mem _ (lk_mem hl)).2
theorem look_ok (h : Okm p s) (hr : s.look i = .go v s') : Okm p s' ∧ lk s.mem i = some v ∧ s' = { s with acc := s.acc ++ [(i, v)] } := by
  unfold Ms.look at hr
  cases hl : lk s.mem i with
  | none => rw [hl] at hr; cases hr
  | some u =>
    rw [hl] at hr
    simp only [Rs.go.injEq] at hr
    obtain ⟨rfl, rfl⟩ := hr
    refine ⟨⟨h.pc, h.fp, h.ap, h.rv, h.mem, fun c hc => ?_⟩, rfl, rfl⟩
    simp only [List.mem_append, List.mem_singleton] at hc
    rcases hc with hc | rfl
    · exact h.acc c hc
    · exact hl
theorem tell_ok (h : Okm p s) (hi : 0 ≤ i ∧ i < p) (hx : 0 ≤ x ∧ x < p) (hr : s.tell i x = .go v s') : Okm p s' ∧ v = 0 ∧ s'.acc = s.acc ++ [(i, x)] ∧ s'.pc = s.pc ∧ s'.fp = s.fp ∧ s'.ap = s.ap ∧ s'.rv = s.rv ∧ lk s'.mem i = some x ∧ (∀ j y, lk s.mem j = some y → lk s'.mem j = some y) ∧ ((s'.mem = s.mem ∧ lk s.mem i = some x) ∨ (s'.mem = s.mem ++ [(i, x)] ∧ lk s.mem i = none)) := by
  unfold Ms.tell at hr
  cases hl : lk s.mem i with
  | some u =>
    rw [hl] at hr
    dsimp only at hr
    split at hr
    · rename_i hu
      subst hu
      simp only [Rs.go.injEq] at hr
      obtain ⟨rfl, rfl⟩ := hr
      refine ⟨⟨h.pc, h.fp, h.ap, h.rv, h.mem, fun c hc => ?_⟩, rfl, rfl, rfl, rfl, rfl, rfl, hl, fun j y hj => hj, .inl ⟨rfl, rfl⟩⟩
      simp only [List.mem_append, List.mem_singleton] at hc
      rcases hc with hc | rfl
      · exact h.acc c hc
      · exact hl
    · cases hr
  | none =>
    rw [hl] at hr
    simp only [Rs.go.injEq] at hr
    obtain ⟨rfl, rfl⟩ := hr
    refine ⟨⟨h.pc, h.fp, h.ap, h.rv, fun c hc => ?_, fun c hc => ?_⟩, rfl, rfl, rfl, rfl, rfl, rfl, lk_new hl, fun j y hj => lk_keep hj, .inr ⟨rfl, rfl⟩⟩
    · simp only [List.mem_append, List.mem_singleton] at hc
      rcases hc with hc | rfl
      · exact h.mem c hc
      · exact ⟨hi, hx⟩
    · simp only [List.mem_append, List.mem_singleton] at hc
      rcases hc with hc | rfl
      · exact lk_keep (h.acc c hc)
      · exact lk_new hl
end
theorem bind_go {r : Rs} {f : Int → Ms → Rs} {v : Int} {s' : Ms} (h : r.bind f = .go v s') : ∃ u t, r = .go u t ∧ f u t = .go v s' := by
  cases r with
  | go u t => exact ⟨u, t, rfl, h⟩
  | no e => cases h
/-- What a step leaves. -/
structure Aft (p : Int) (s s' : Ms) (k : Nat) : Prop where
  ok : Okm p s'
  len : s'.acc.length ≤ s.acc.length + k
  keep : ∀ j y, lk s.mem j = some y → lk s'.mem j = some y
  size : s'.mem.length ≤ s.mem.length + k
theorem Aft.trans {p : Int} {s t u : Ms} {j k : Nat} (h1 : Aft p s t j) (h2 : Aft p t u k) : Aft p s u (j + k) :=
  ⟨h2.ok, by have := h1.len; have := h2.len; omega, fun i y hy => h2.keep _ _ (h1.keep _ _ hy), by have := h1.size; have := h2.size; omega⟩
theorem Aft.le {p : Int} {s t : Ms} {j k : Nat} (h1 : Aft p s t j) (h : j ≤ k) : Aft p s t k := ⟨h1.ok, by have := h1.len; omega, h1.keep, by have := h1.size; omega⟩
theorem look_aft {p : Int} {s s' : Ms} {i v : Int} (h : Okm p s) (hr : s.look i = .go v s') : Aft p s s' 1 ∧ (0 ≤ v ∧ v < p) ∧ s'.pc = s.pc ∧ s'.fp = s.fp ∧ s'.ap = s.ap ∧ s'.rv = s.rv := by
  obtain ⟨h1, h2, rfl⟩ := look_ok h hr
  exact ⟨⟨h1, by simp, fun _ _ hy => hy, by simp⟩, h.val h2, rfl, rfl, rfl, rfl⟩
theorem tell_aft {p : Int} {s s' : Ms} {i v x : Int} (h : Okm p s) (hi : 0 ≤ i ∧ i < p) (hx : 0 ≤ x ∧ x < p) (hr : s.tell i x = .go v s') : Aft p s s' 1 ∧ s'.pc = s.pc ∧ s'.fp = s.fp ∧ s'.ap = s.ap ∧ s'.rv = s.rv := by
  obtain ⟨h1, _, h2, h3, h4, h5, h6, _, h8, h9⟩ := tell_ok h hi hx hr
  exact ⟨⟨h1, by rw [h2]; simp, h8, by rcases h9 with ⟨e, _⟩ | ⟨e, _⟩ <;> rw [e] <;> simp⟩, h3, h4, h5, h6⟩
theorem to_aft {p : Int} {s s' : Ms} {n u v : Int} (h : Okm p s) (hn : 0 ≤ n ∧ n < p) (hr : Ms.to n u s = .go v s') : Aft p s s' 0 := by
  unfold Ms.to at hr
  simp only [Rs.go.injEq] at hr
  obtain ⟨_, rfl⟩ := hr
  exact ⟨⟨hn, h.fp, h.ap, h.rv, h.mem, h.acc⟩, Nat.le_refl _, fun _ _ hy => hy, Nat.le_refl _⟩
theorem reck_bd {p : Int} (hp : 2 ≤ p) (op x y : Int) : 0 ≤ reck p op x y ∧ reck p op x y < p := by
  unfold reck
  split
  · exact fadd_bd hp _ _
  split
  · exact fsub_bd hp _ _
  split
  · exact fmul_bd hp _ _
  split
  · exact fdiv_bd hp _ _
  split <;> omega
theorem one_aft {p : Int} (hp : 2 ≤ p) {s s' : Ms} {x : In4} {v : Int} (h : Okm p s) (hr : s.one p x = .go v s') : Aft p s s' 3 := by
  have ha := fadd_bd hp
  have ho := fof_bd hp
  have hnx : 0 ≤ fadd p s.pc 1 ∧ fadd p s.pc 1 < p := ha _ _
  unfold Ms.one at hr
  split at hr
  · obtain ⟨u, t, h1, h2⟩ := bind_go hr
    unfold Ms.comp at h1
    obtain ⟨u1, t1, g1, h1⟩ := bind_go h1
    obtain ⟨u2, t2, g2, h1⟩ := bind_go h1
    obtain ⟨k1, b1, _⟩ := look_aft h g1
    obtain ⟨k2, b2, _⟩ := look_aft k1.ok g2
    split at h1
    · cases h1
    · obtain ⟨k3, _⟩ := tell_aft k2.ok (ha _ _) (reck_bd hp _ _ _) h1
      exact ((k1.trans k2).trans k3).trans (to_aft k3.ok hnx h2)
  split at hr
  · obtain ⟨u, t, h1, h2⟩ := bind_go hr
    obtain ⟨k1, _⟩ := tell_aft h (ha _ _) (ho _) h1
    exact (k1.trans (to_aft k1.ok hnx h2)).le (by omega)
  split at hr
  · obtain ⟨u, t, h1, h2⟩ := bind_go hr
    obtain ⟨u2, t2, h2, h3⟩ := bind_go h2
    obtain ⟨k1, _⟩ := look_aft h h1
    obtain ⟨k2, _⟩ := look_aft k1.ok h2
    split at h3
    · exact ((k1.trans k2).trans (to_aft k2.ok hnx h3)).le (by omega)
    · cases h3
  split at hr
  · exact (to_aft h (ho _) hr).le (by omega)
  split at hr
  · obtain ⟨u, t, h1, h2⟩ := bind_go hr
    obtain ⟨k1, _⟩ := look_aft h h1
    exact (k1.trans (to_aft k1.ok (by split; exact ho _; exact hnx) h2)).le (by omega)
  split at hr
  · unfold Ms.call at hr
    obtain ⟨u, t, h1, h2⟩ := bind_go hr
    obtain ⟨u2, t2, h2, h3⟩ := bind_go h2
    obtain ⟨k1, e1, e2, e3, e4⟩ := tell_aft h h.ap h.fp h1
    obtain ⟨k2, f1, f2, f3, f4⟩ := tell_aft k1.ok (ha _ _) (ha _ _) h2
    simp only [Rs.go.injEq] at h3
    obtain ⟨_, h5⟩ := h3
    have k3 : Aft p t2 s' 0 := by subst h5; exact ⟨⟨ho _, ha _ _, ha _ _, k2.ok.rv, k2.ok.mem, k2.ok.acc⟩, Nat.le_refl _, fun _ _ hy => hy, Nat.le_refl _⟩
    exact ((k1.trans k2).trans k3).le (by omega)
  split at hr
  · unfold Ms.back at hr
    obtain ⟨u, t, h1, h2⟩ := bind_go hr
    obtain ⟨u2, t2, h2, h3⟩ := bind_go h2
    obtain ⟨u3, t3, h3, h4⟩ := bind_go h3
    obtain ⟨k1, b1, _⟩ := look_aft h h1
    obtain ⟨k2, b2, _⟩ := look_aft k1.ok h2
    obtain ⟨k3, b3, _⟩ := look_aft k2.ok h3
    simp only [Rs.go.injEq] at h4
    obtain ⟨_, h5⟩ := h4
    have k4 : Aft p t3 s' 0 := by subst h5; exact ⟨⟨b2, b1, k3.ok.ap, b3, k3.ok.mem, k3.ok.acc⟩, Nat.le_refl _, fun _ _ hy => hy, Nat.le_refl _⟩
    exact (((k1.trans k2).trans k3).trans k4).le (by omega)
  split at hr
  · obtain ⟨u, t, h1, h2⟩ := bind_go hr
    obtain ⟨k1, _⟩ := tell_aft h (ha _ _) h.rv h1
    exact (k1.trans (to_aft k1.ok hnx h2)).le (by omega)
  split at hr
  · obtain ⟨u, t, h1, h2⟩ := bind_go hr
    obtain ⟨u2, t2, h2, h3⟩ := bind_go h2
    obtain ⟨k1, b1, _⟩ := look_aft h h1
    obtain ⟨k2, _⟩ := tell_aft k1.ok (ha _ _) b1 h2
    exact ((k1.trans k2).trans (to_aft k2.ok hnx h3)).le (by omega)
  cases hr
theorem blank_ok {p : Int} {s : Ms} (h : Okm p s) : Okm p s.blank := ⟨h.pc, h.fp, h.ap, h.rv, h.mem, fun c hc => by simp [Ms.blank] at hc⟩
theorem start_ok {p size : Int} (hp : 2 ≤ p) : Okm p (startM p size) :=
  ⟨by simp [startM]; omega, fof_bd hp _, fof_bd hp _, by simp [startM]; omega, fun c hc => by simp [startM] at hc; subst hc; simp; omega, fun c hc => by simp [startM] at hc⟩
end Go.Att
