/- The machine, plain: cells that are told once; a step; a run. No program in sight. The machine's map and block, plain: a datum that reads as what was told; a block known whole; what two blocks' change leaves. A text's reader, the program's side: letters, kinds of words; what the reader's block holds: contracts. -/
import Derived.Test.YtgnomhbbbcfehaaGreatDoorPl
import Derived.Maps.OwnSet
import Derived.Test.YtgnomhbbbcfehaaGreatDoorVc
import Derived.Test.YtgnomhbbbcfehaaGreatDoorProg
import Derived.Test.YtgnomhbbbcfehaaGreatDoorZx3
import Derived.BigQuiet
import Derived.Shelf.Strings.SlTrimAscii
import Derived.Shelf.Strings.Prefix
import Derived.Shelf.Small.Strs
import Derived.Shelf.Lays
import Derived.Ground.NamesProg
section
namespace Go.Att
structure In4 where
  op : Int
  a : Int
  b : Int
  c : Int
structure Ms where
  pc : Int
  fp : Int
  ap : Int
  rv : Int
  mem : List (Int × Int)
  acc : List (Int × Int)
inductive Rs where
  | go (v : Int) (s : Ms)
  | no (e : Int)
def Rs.bind : Rs → (Int → Ms → Rs) → Rs
  | .go v s, f => f v s
  | .no e, _ => .no e
def lk (m : List (Int × Int)) (at_ : Int) : Option Int := (m.find? fun c => c.1 == at_).map Prod.snd
def Ms.look (s : Ms) (at_ : Int) : Rs := match lk s.mem at_ with
  | none => .no 10
  | some v => .go v { s with acc := s.acc ++ [(at_, v)] }
def Ms.tell (s : Ms) (at_ is : Int) : Rs := match lk s.mem at_ with
  | some v => if v = is then .go 0 { s with acc := s.acc ++ [(at_, is)] } else .no 7
  | none => .go 0 { s with mem := s.mem ++ [(at_, is)], acc := s.acc ++ [(at_, is)] }
def isCmp (op : Int) : Bool := op == 1 || op == 2 || op == 3 || op == 4 || op == 6
def reck (p op x y : Int) : Int := if op = 1 then fadd p x y else if op = 2 then fsub p x y else if op = 3 then fmul p x y else if op = 4 then fdiv p x y else if x = y then 1 else 0
def Ms.comp (p : Int) (s : Ms) (x : In4) : Rs := (s.look (fadd p s.fp x.a)).bind fun u s => (s.look (fadd p s.fp x.b)).bind fun v s =>
  if x.op = 4 ∧ v = 0 then .no 7 else s.tell (fadd p s.fp x.c) (reck p x.op u v)
def Ms.call (p : Int) (s : Ms) (x : In4) : Rs := (s.tell s.ap s.fp).bind fun _ s => (s.tell (fadd p s.ap 1) (fadd p s.pc 1)).bind fun _ s =>
  .go 0 { s with fp := fadd p s.ap 2, ap := fadd p (fadd p s.ap 2) x.b, pc := fof p x.a }
def Ms.back (p : Int) (s : Ms) (x : In4) : Rs := (s.look (fadd p s.fp (-2))).bind fun f s => (s.look (fadd p s.fp (-1))).bind fun q s => (s.look (fadd p s.fp x.a)).bind fun r s =>
  .go 0 { s with rv := r, fp := f, pc := q }
def Ms.to (n : Int) (_ : Int) (s : Ms) : Rs := .go 0 { s with pc := n }
def Ms.one (p : Int) (s : Ms) (x : In4) : Rs :=
  if isCmp x.op then (s.comp p x).bind (Ms.to (fadd p s.pc 1))
  else if x.op = 5 then (s.tell (fadd p s.fp x.a) (fof p x.b)).bind (Ms.to (fadd p s.pc 1))
  else if x.op = 7 then (s.look (fadd p s.fp x.a)).bind fun u t => (t.look (fadd p s.fp x.b)).bind fun v t => if u = v then Ms.to (fadd p s.pc 1) 0 t else .no 7
  else if x.op = 8 then Ms.to (fof p x.a) 0 s
  else if x.op = 9 then (s.look (fadd p s.fp x.a)).bind fun u t => Ms.to (if u = 0 then fof p x.b else fadd p s.pc 1) 0 t
  else if x.op = 10 then s.call p x
  else if x.op = 11 then s.back p x
  else if x.op = 12 then (s.tell (fadd p s.fp x.a) s.rv).bind (Ms.to (fadd p s.pc 1))
  else if x.op = 13 then (s.look (fadd p s.fp x.a)).bind fun u t => (t.tell (fadd p (fadd p s.ap 2) x.b) u).bind (Ms.to (fadd p s.pc 1))
  else .no 7
structure Stp where
  pc : Int
  fp : Int
  ap : Int
  rv : Int
  acc : List (Int × Int)
def Stp.nums (t : Stp) : List Int := [t.pc, t.fp, t.ap, t.rv, (t.acc.getD 0 (0, 0)).1, (t.acc.getD 1 (0, 0)).1, (t.acc.getD 2 (0, 0)).1, (t.acc.getD 0 (0, 0)).2, (t.acc.getD 1 (0, 0)).2, (t.acc.getD 2 (0, 0)).2]
def Ms.note (s : Ms) (acc : List (Int × Int)) : Stp := ⟨s.pc, s.fp, s.ap, s.rv, acc⟩
def Ms.blank (s : Ms) : Ms := { s with acc := [] }
inductive Rw where
  | done (l : List Stp) (out : Int) (mem : List (Int × Int))
  | no (e : Int)
def nthI (l : List In4) (i : Nat) : In4 := l.getD i ⟨0, 0, 0, 0⟩
def runM (p : Int) (code : List In4) : Nat → List Stp → Ms → Rw
  | 0, l, s => if (code.length : Int) ≤ s.pc then .no 7 else
      if (nthI code s.pc.toNat).op = 0 then (match s.blank.look (fadd p s.fp (nthI code s.pc.toNat).a) with
        | .no e => .no e
        | .go v s' => .done (l ++ [s.note s'.acc]) v s'.mem) else .no 8
  | n + 1, l, s => if (code.length : Int) ≤ s.pc then .no 7 else
      if (nthI code s.pc.toNat).op = 0 then (match s.blank.look (fadd p s.fp (nthI code s.pc.toNat).a) with
        | .no e => .no e
        | .go v s' => .done (l ++ [s.note s'.acc]) v s'.mem)
      else match s.blank.one p (nthI code s.pc.toNat) with
        | .no e => .no e
        | .go _ s' => runM p code n (l ++ [s.note s'.acc]) s'
def startM (p size : Int) : Ms := ⟨0, fof p 1, fof p (1 + size), 0, [(0, 0)], []⟩
def faultM (p size : Int) (n : Nat) (limit : Int) : Int := if size < 0 ∨ 65536 < size ∨ n = 0 ∨ 4096 < n ∨ p < n then 2 else if limit < 0 ∨ 16384 < limit then 3 else 0
def walkM (p size : Int) (code : List In4) (limit : Int) : Rw := if faultM p size code.length limit = 0 then runM p code limit.toNat [] (startM p size) else .no (faultM p size code.length limit)

structure Okm (p : Int) (s : Ms) : Prop where
  pc : 0 ≤ s.pc ∧ s.pc < p
  fp : 0 ≤ s.fp ∧ s.fp < p
  ap : 0 ≤ s.ap ∧ s.ap < p
  rv : 0 ≤ s.rv ∧ s.rv < p
  mem : ∀ c ∈ s.mem, (0 ≤ c.1 ∧ c.1 < p) ∧ (0 ≤ c.2 ∧ c.2 < p)
  acc : ∀ c ∈ s.acc, lk s.mem c.1 = some c.2
theorem lk_mem {m : List (Int × Int)} {i v : Int} (h : lk m i = some v) : (i, v) ∈ m := by
  unfold lk at h
  rw [Option.map_eq_some_iff] at h
  obtain ⟨⟨a, b⟩, h1, h2⟩ := h
  have h3 := List.find?_some h1
  simp at h3 h2
  subst h3 h2
  exact List.mem_of_find?_eq_some h1
theorem lk_app (m : List (Int × Int)) (i j v : Int) : lk (m ++ [(i, v)]) j = match lk m j with | some x => some x | none => if i = j then some v else none := by
  unfold lk
  rw [List.find?_append]
  cases h : m.find? (fun c => c.1 == j) with
  | some x => simp
  | none => by_cases e : i = j <;> simp [e]
theorem lk_keep {m : List (Int × Int)} {i j v x : Int} (h : lk m j = some x) : lk (m ++ [(i, v)]) j = some x := by rw [lk_app, h]
theorem lk_new {m : List (Int × Int)} {i v : Int} (h : lk m i = none) : lk (m ++ [(i, v)]) i = some v := by rw [lk_app, h]; simp
section
variable {p : Int} {s s' : Ms} {i v x : Int}
theorem Okm.val (h : Okm p s) (hl : lk s.mem i = some v) : 0 ≤ v ∧ v < p := (h.mem _ (lk_mem hl)).2
theorem look_ok (h : Okm p s) (hr : s.look i = .go v s') : Okm p s' ∧ lk s.mem i = some v ∧ s' = { s with acc := s.acc ++ [(i, v)] } := by
  unfold Ms.look at hr
  cases hl : lk s.mem i with
  | none => rw [hl] at hr; cases hr
  | some u =>
    rw [hl] at hr
    simp only [Rs.go.injEq] at hr
    obtain ⟨rfl, rfl⟩ := hr
    refine ⟨⟨h.pc, h.fp, h.ap, h.rv, h.mem, fun c hc => ?_⟩, rfl, rfl⟩
    simp only [List.mem_append, List.mem_singleton] at hc
    rcases hc with hc | rfl
    · exact h.acc c hc
    · exact hl
theorem tell_ok (h : Okm p s) (hi : 0 ≤ i ∧ i < p) (hx : 0 ≤ x ∧ x < p) (hr : s.tell i x = .go v s') : Okm p s' ∧ v = 0 ∧ s'.acc = s.acc ++ [(i, x)] ∧ s'.pc = s.pc ∧ s'.fp = s.fp ∧ s'.ap = s.ap ∧ s'.rv = s.rv ∧ lk s'.mem i = some x ∧ (∀ j y, lk s.mem j = some y → lk s'.mem j = some y) ∧ ((s'.mem = s.mem ∧ lk s.mem i = some x) ∨ (s'.mem = s.mem ++ [(i, x)] ∧ lk s.mem i = none)) := by
  unfold Ms.tell at hr
  cases hl : lk s.mem i with
  | some u =>
    rw [hl] at hr
    dsimp only at hr
    split at hr
    · rename_i hu
      subst hu
      simp only [Rs.go.injEq] at hr
      obtain ⟨rfl, rfl⟩ := hr
      refine ⟨⟨h.pc, h.fp, h.ap, h.rv, h.mem, fun c hc => ?_⟩, rfl, rfl, rfl, rfl, rfl, rfl, hl, fun j y hj => hj, .inl ⟨rfl, rfl⟩⟩
      simp only [List.mem_append, List.mem_singleton] at hc
      rcases hc with hc | rfl
      · exact h.acc c hc
      · exact hl
    · cases hr
  | none =>
    rw [hl] at hr
    simp only [Rs.go.injEq] at hr
    obtain ⟨rfl, rfl⟩ := hr
    refine ⟨⟨h.pc, h.fp, h.ap, h.rv, fun c hc => ?_, fun c hc => ?_⟩, rfl, rfl, rfl, rfl, rfl, rfl, lk_new hl, fun j y hj => lk_keep hj, .inr ⟨rfl, rfl⟩⟩
    · simp only [List.mem_append, List.mem_singleton] at hc
      rcases hc with hc | rfl
      · exact h.mem c hc
      · exact ⟨hi, hx⟩
    · simp only [List.mem_append, List.mem_singleton] at hc
      rcases hc with hc | rfl
      · exact lk_keep (h.acc c hc)
      · exact lk_new hl
end
theorem bind_go {r : Rs} {f : Int → Ms → Rs} {v : Int} {s' : Ms} (h : r.bind f = .go v s') : ∃ u t, r = .go u t ∧ f u t = .go v s' := by
  cases r with
  | go u t => exact ⟨u, t, rfl, h⟩
  | no e => cases h
structure Aft (p : Int) (s s' : Ms) (k : Nat) : Prop where
  ok : Okm p s'
  len : s'.acc.length ≤ s.acc.length + k
  keep : ∀ j y, lk s.mem j = some y → lk s'.mem j = some y
  size : s'.mem.length ≤ s.mem.length + k
theorem Aft.trans {p : Int} {s t u : Ms} {j k : Nat} (h1 : Aft p s t j) (h2 : Aft p t u k) : Aft p s u (j + k) :=
  ⟨h2.ok, by have := h1.len; have := h2.len; omega, fun i y hy => h2.keep _ _ (h1.keep _ _ hy), by have := h1.size; have := h2.size; omega⟩
theorem Aft.le {p : Int} {s t : Ms} {j k : Nat} (h1 : Aft p s t j) (h : j ≤ k) : Aft p s t k := ⟨h1.ok, by have := h1.len; omega, h1.keep, by have := h1.size; omega⟩
theorem look_aft {p : Int} {s s' : Ms} {i v : Int} (h : Okm p s) (hr : s.look i = .go v s') : Aft p s s' 1 ∧ (0 ≤ v ∧ v < p) ∧ s'.pc = s.pc ∧ s'.fp = s.fp ∧ s'.ap = s.ap ∧ s'.rv = s.rv := by
  obtain ⟨h1, h2, rfl⟩ := look_ok h hr
  exact ⟨⟨h1, by simp, fun _ _ hy => hy, by simp⟩, h.val h2, rfl, rfl, rfl, rfl⟩
theorem tell_aft {p : Int} {s s' : Ms} {i v x : Int} (h : Okm p s) (hi : 0 ≤ i ∧ i < p) (hx : 0 ≤ x ∧ x < p) (hr : s.tell i x = .go v s') : Aft p s s' 1 ∧ s'.pc = s.pc ∧ s'.fp = s.fp ∧ s'.ap = s.ap ∧ s'.rv = s.rv := by
  obtain ⟨h1, _, h2, h3, h4, h5, h6, _, h8, h9⟩ := tell_ok h hi hx hr
  exact ⟨⟨h1, by rw [h2]; simp, h8, by rcases h9 with ⟨e, _⟩ | ⟨e, _⟩ <;> rw [e] <;> simp⟩, h3, h4, h5, h6⟩
theorem to_aft {p : Int} {s s' : Ms} {n u v : Int} (h : Okm p s) (hn : 0 ≤ n ∧ n < p) (hr : Ms.to n u s = .go v s') : Aft p s s' 0 := by
  unfold Ms.to at hr
  simp only [Rs.go.injEq] at hr
  obtain ⟨_, rfl⟩ := hr
  exact ⟨⟨hn, h.fp, h.ap, h.rv, h.mem, h.acc⟩, Nat.le_refl _, fun _ _ hy => hy, Nat.le_refl _⟩
theorem reck_bd {p : Int} (hp : 2 ≤ p) (op x y : Int) : 0 ≤ reck p op x y ∧ reck p op x y < p := by
  unfold reck
  split
  · exact fadd_bd hp _ _
  split
  · exact fsub_bd hp _ _
  split
  · exact fmul_bd hp _ _
  split
  · exact fdiv_bd hp _ _
  split <;> omega
theorem one_aft {p : Int} (hp : 2 ≤ p) {s s' : Ms} {x : In4} {v : Int} (h : Okm p s) (hr : s.one p x = .go v s') : Aft p s s' 3 := by
  have ha := fadd_bd hp
  have ho := fof_bd hp
  have hnx : 0 ≤ fadd p s.pc 1 ∧ fadd p s.pc 1 < p := ha _ _
  unfold Ms.one at hr
  split at hr
  · obtain ⟨u, t, h1, h2⟩ := bind_go hr
    unfold Ms.comp at h1
    obtain ⟨u1, t1, g1, h1⟩ := bind_go h1
    obtain ⟨u2, t2, g2, h1⟩ := bind_go h1
    obtain ⟨k1, b1, _⟩ := look_aft h g1
    obtain ⟨k2, b2, _⟩ := look_aft k1.ok g2
    split at h1
    · cases h1
    · obtain ⟨k3, _⟩ := tell_aft k2.ok (ha _ _) (reck_bd hp _ _ _) h1
      exact ((k1.trans k2).trans k3).trans (to_aft k3.ok hnx h2)
  split at hr
  · obtain ⟨u, t, h1, h2⟩ := bind_go hr
    obtain ⟨k1, _⟩ := tell_aft h (ha _ _) (ho _) h1
    exact (k1.trans (to_aft k1.ok hnx h2)).le (by omega)
  split at hr
  · obtain ⟨u, t, h1, h2⟩ := bind_go hr
    obtain ⟨u2, t2, h2, h3⟩ := bind_go h2
    obtain ⟨k1, _⟩ := look_aft h h1
    obtain ⟨k2, _⟩ := look_aft k1.ok h2
    split at h3
    · exact ((k1.trans k2).trans (to_aft k2.ok hnx h3)).le (by omega)
    · cases h3
  split at hr
  · exact (to_aft h (ho _) hr).le (by omega)
  split at hr
  · obtain ⟨u, t, h1, h2⟩ := bind_go hr
    obtain ⟨k1, _⟩ := look_aft h h1
    exact (k1.trans (to_aft k1.ok (by split; exact ho _; exact hnx) h2)).le (by omega)
  split at hr
  · unfold Ms.call at hr
    obtain ⟨u, t, h1, h2⟩ := bind_go hr
    obtain ⟨u2, t2, h2, h3⟩ := bind_go h2
    obtain ⟨k1, e1, e2, e3, e4⟩ := tell_aft h h.ap h.fp h1
    obtain ⟨k2, f1, f2, f3, f4⟩ := tell_aft k1.ok (ha _ _) (ha _ _) h2
    simp only [Rs.go.injEq] at h3
    obtain ⟨_, h5⟩ := h3
    have k3 : Aft p t2 s' 0 := by subst h5; exact ⟨⟨ho _, ha _ _, ha _ _, k2.ok.rv, k2.ok.mem, k2.ok.acc⟩, Nat.le_refl _, fun _ _ hy => hy, Nat.le_refl _⟩
    exact ((k1.trans k2).trans k3).le (by omega)
  split at hr
  · unfold Ms.back at hr
    obtain ⟨u, t, h1, h2⟩ := bind_go hr
    obtain ⟨u2, t2, h2, h3⟩ := bind_go h2
    obtain ⟨u3, t3, h3, h4⟩ := bind_go h3
    obtain ⟨k1, b1, _⟩ := look_aft h h1
    obtain ⟨k2, b2, _⟩ := look_aft k1.ok h2
    obtain ⟨k3, b3, _⟩ := look_aft k2.ok h3
    simp only [Rs.go.injEq] at h4
    obtain ⟨_, h5⟩ := h4
    have k4 : Aft p t3 s' 0 := by subst h5; exact ⟨⟨b2, b1, k3.ok.ap, b3, k3.ok.mem, k3.ok.acc⟩, Nat.le_refl _, fun _ _ hy => hy, Nat.le_refl _⟩
    exact (((k1.trans k2).trans k3).trans k4).le (by omega)
  split at hr
  · obtain ⟨u, t, h1, h2⟩ := bind_go hr
    obtain ⟨k1, _⟩ := tell_aft h (ha _ _) h.rv h1
    exact (k1.trans (to_aft k1.ok hnx h2)).le (by omega)
  split at hr
  · obtain ⟨u, t, h1, h2⟩ := bind_go hr
    obtain ⟨u2, t2, h2, h3⟩ := bind_go h2
    obtain ⟨k1, b1, _⟩ := look_aft h h1
    obtain ⟨k2, _⟩ := tell_aft k1.ok (ha _ _) b1 h2
    exact ((k1.trans k2).trans (to_aft k2.ok hnx h3)).le (by omega)
  cases hr
theorem blank_ok {p : Int} {s : Ms} (h : Okm p s) : Okm p s.blank := ⟨h.pc, h.fp, h.ap, h.rv, h.mem, fun c hc => by simp [Ms.blank] at hc⟩
theorem start_ok {p size : Int} (hp : 2 ≤ p) : Okm p (startM p size) :=
  ⟨by simp [startM]; omega, fof_bd hp _, fof_bd hp _, by simp [startM]; omega, fun c hc => by simp [startM] at hc; subst hc; simp; omega, fun c hc => by simp [startM] at hc⟩
end Go.Att
end
section
namespace Go.Att
open Go.Maps Go.RowKit
structure MemD {H : Type} (D : DataW H) (mem : List (Int × Int)) : Prop where
  tidy : Tidy D
  has : ∀ k : Int, Maps.has D (.int .i64 k) = (lk mem k).isSome
  at_ : ∀ (k v : Int) (z : DataW H), lk mem k = some v → D.atKey (.int .i64 k) z = .lit (.int .i64 v)
section
variable {H : Type} {D : DataW H} {mem : List (Int × Int)}
theorem MemD.nil : MemD (.map [] : DataW H) [] := ⟨tidy_empty, fun k => rfl, fun k v z h => by cases h⟩
theorem lit_ne {k k' : Int} (h : k' ≠ k) : (Lit.int .i64 k' : Lit) ≠ .int .i64 k := fun e => h (by injection e)
theorem MemD.tell (h : MemD D mem) {k v : Int} (hk : WideAt.IsKeyLit (Lit.int .i64 k)) (hl : lk mem k = none) : MemD (D.put (.int .i64 k) (.lit (.int .i64 v))) (mem ++ [(k, v)]) := by
  refine ⟨h.tidy.put hk _, fun j => ?_, fun j u z hj => ?_⟩
  · by_cases e : j = k
    · subst e; rw [has_put_same h.tidy.isMap hk, lk_new hl]; rfl
    · rw [has_put_other (lit_ne e), h.has, lk_app]
      cases hj : lk mem j with
      | some x => rfl
      | none => simp [Ne.symm e]
  · by_cases e : j = k
    · subst e
      rw [lk_new hl] at hj; cases hj
      exact atKey_put_same h.tidy.isMap hk _ _
    · rw [atKey_put_other (lit_ne e)]
      rw [lk_app] at hj
      cases hx : lk mem j with
      | some x => rw [hx] at hj; cases hj; exact h.at_ _ _ _ hx
      | none => rw [hx] at hj; simp [Ne.symm e] at hj
theorem MemD.again (h : MemD D mem) {k v : Int} (hk : WideAt.IsKeyLit (Lit.int .i64 k)) (hl : lk mem k = some v) : MemD (D.put (.int .i64 k) (.lit (.int .i64 v))) mem := by
  refine ⟨h.tidy.put hk _, fun j => ?_, fun j u z hj => ?_⟩
  · by_cases e : j = k
    · subst e; rw [has_put_same h.tidy.isMap hk, hl]; rfl
    · rw [has_put_other (lit_ne e), h.has]
  · by_cases e : j = k
    · subst e
      rw [hl] at hj; cases hj
      exact atKey_put_same h.tidy.isMap hk _ _
    · rw [atKey_put_other (lit_ne e)]; exact h.at_ _ _ _ hj
end
def Tmem (P : Program) (K : TypeId) (w : World) (mb : Nat) (n : Int) (mem : List (Int × Int)) : Prop := ∃ (c : Nat) (D : DataW Unit), (c : Int) ≤ n ∧ w.ownsMap P K (plainElem P K) mb c D ∧ MemD D mem
section
variable {P : Program} {K T : TypeId} {w w' : World} {mb : Nat} {n : Int} {mem : List (Int × Int)}
theorem wf_small {k : Int} (h0 : 0 ≤ k) (h1 : k ≤ 2147483647) : (Lit.int .i64 k).wf = true := WalkArith.wf_i64 (by omega)
theorem Tmem.lt (h : Tmem P K w mb n mem) : mb < w.heap.size := by obtain ⟨c, D, _, h2, _⟩ := h; exact h2.lt
theorem Tmem.kept (h : Tmem P K w mb n mem) {row : Option Nat} (hg : w.grownBy w' row) (hne : some mb ≠ row) : Tmem P K w' mb n mem := by
  obtain ⟨c, D, h1, h2, h3⟩ := h; exact ⟨c, D, h1, h2.kept hg hne, h3⟩
theorem Tmem.mono (h : Tmem P K w mb n mem) {m : Int} (hm : n ≤ m) : Tmem P K w mb m mem := by
  obtain ⟨c, D, h1, h2, h3⟩ := h; exact ⟨c, D, Int.le_trans h1 hm, h2, h3⟩
variable (hk : P.underlying K = some (.int .i64)) (ht : P.underlying T = some (.map K K)) (hz : ∀ w, (zeroValue K).run P w = .ok (.int .i64 0) w)
include hk ht hz
theorem Tmem.look (h : Tmem P K w mb n mem) {k v : Int} (h0 : 0 ≤ k) (h1 : k ≤ 2147483647) (hl : lk mem k = some v) : (Instr.lookup T (.map (some mb)) (.int .i64 k) false).run P w = .ok (.int .i64 v) w := by
  obtain ⟨c, D, _, h2, h3⟩ := h
  obtain ⟨u, hr, ha, _⟩ := h2.lookup_int (int_keyed hk) ht hk (hz w) (keyOf_int_mk hk (wf_small h0 h1))
  rw [h3.at_ _ _ _ hl] at ha
  injection ha with ha
  injection ha with _ ha
  rw [ha]; exact hr
theorem Tmem.look_yes (h : Tmem P K w mb n mem) {k v : Int} (h0 : 0 ≤ k) (h1 : k ≤ 2147483647) (hl : lk mem k = some v) : (Instr.lookup T (.map (some mb)) (.int .i64 k) true).run P w = .ok (.tuple #[.int .i64 v, .bool true]) w := by
  obtain ⟨c, D, _, h2, h3⟩ := h
  obtain ⟨u, ps, hr, hu⟩ := h2.look_ok (int_keyed hk) ht (hz w) (plainElem_int hk (by decide)) (keyOf_int_mk hk (wf_small h0 h1))
  rw [h3.at_ _ _ _ hl] at hu
  obtain ⟨c, rfl, hc, _⟩ := plainElem_int_inv hk hu
  have e : v = c := by
    have := congrArg Prod.fst hc
    dsimp only at this
    injection this with this
    injection this with _ this
  rw [h3.has, hl] at hr
  rw [e]; exact hr
theorem Tmem.look_no (h : Tmem P K w mb n mem) {k : Int} (h0 : 0 ≤ k) (h1 : k ≤ 2147483647) (hl : lk mem k = none) : ∃ u : Int, (Instr.lookup T (.map (some mb)) (.int .i64 k) true).run P w = .ok (.tuple #[.int .i64 u, .bool false]) w := by
  obtain ⟨c, D, _, h2, h3⟩ := h
  obtain ⟨u, ps, hr, hu⟩ := h2.look_ok (int_keyed hk) ht (hz w) (plainElem_int hk (by decide)) (keyOf_int_mk hk (wf_small h0 h1))
  obtain ⟨c, rfl, hc, _⟩ := plainElem_int_inv hk hu
  rw [h3.has, hl] at hr
  exact ⟨c, hr⟩
omit hz in
theorem Tmem.store (h : Tmem P K w mb n mem) (hn : n < 9223372036854775807) {k v : Int} (h0 : 0 ≤ k) (h1 : k ≤ 2147483647) (h2 : 0 ≤ v) (h3 : v ≤ 2147483647) {mem' : List (Int × Int)} (hm : (lk mem k = none ∧ mem' = mem ++ [(k, v)]) ∨ (lk mem k = some v ∧ mem' = mem)) :
    ∃ w', (Instr.mapUpdate T (.map (some mb)) (.int .i64 k) (.int .i64 v)).run P w = .ok () w' ∧ Tmem P K w' mb (n + 1) mem' ∧ w.grownBy w' (some mb) := by
  obtain ⟨c, D, hc, ho, hd⟩ := h
  obtain ⟨w', hr, ho', hg⟩ := ho.update (int_keyed hk) ht (by unfold maxLen; omega) (keyOf_int_mk hk (wf_small h0 h1)) (plainElem_int hk (wf_small h2 h3))
  refine ⟨w', hr, ⟨c + 1, _, by omega, ho', ?_⟩, hg⟩
  rcases hm with ⟨hl, rfl⟩ | ⟨hl, rfl⟩
  · exact hd.tell trivial hl
  · exact hd.again trivial hl
end
def BlkOf (w : World) (b : Nat) (cs : List Value) (t : TypeId) : Prop := w.heap[b]? = some (.cells cs.toArray t (0, 0))
section
variable {w w' : World} {b : Nat} {cs : List Value} {t : TypeId}
theorem BlkOf.cell (h : BlkOf w b cs t) (i : Nat) : w.cell? ⟨b, i, none⟩ = cs[i]? := by unfold BlkOf at h; simp [World.cell?, h]
theorem BlkOf.free (h : BlkOf w b cs t) (i : Nat) : w.frozen? ⟨b, i, none⟩ = false := by unfold BlkOf at h; simp [World.frozen?, h]
theorem BlkOf.lt (h : BlkOf w b cs t) : b < w.heap.size := lt_of_block h
theorem BlkOf.set (h : BlkOf w b cs t) (i : Nat) (v : Value) : BlkOf (w.setCell ⟨b, i, none⟩ v) b (cs.set i v) t := by
  have hlt := h.lt
  unfold BlkOf at *
  have h' : w.heap[b] = .cells cs.toArray t (0, 0) := by simpa [Array.getElem?_eq_getElem hlt] using h
  show (w.heap.modify b _)[b]? = _
  rw [Array.getElem?_eq_getElem (by simpa using hlt), Array.getElem_modify_self, h']
  simp
theorem BlkOf.grown (h : BlkOf w b cs t) {row : Option Nat} (hg : w.grownBy w' row) (hne : some b ≠ row) : BlkOf w' b cs t := by
  unfold BlkOf at *; rw [hg.block b (lt_of_block h) hne]; exact h
theorem BlkOf.ext (h : BlkOf w b cs t) (hx : Ext w w') : BlkOf w' b cs t := h.grown (hx.grownBy none) (by simp)
theorem BlkOf.new (w : World) (cs : List Value) (t : TypeId) : BlkOf (w.alloc (.cells cs.toArray t)) w.heap.size cs t := by
  unfold BlkOf; exact heap_alloc_new _ _
end
theorem grown_one {W w w' : World} {b : Option Nat} (h : W.grownBy w b) (k : w.grownBy w' b) : W.grownBy w' b :=
  ⟨k.os.trans h.os, k.tape.trans h.tape, k.output.trans h.output, Nat.le_trans h.size k.size, fun q hq hne => by rw [k.block q (Nat.lt_of_lt_of_le hq h.size) hne]; exact h.block q hq hne⟩
structure Turned (b c : Nat) (w w' : World) : Prop where
  os : w'.os = w.os
  tape : w'.tape = w.tape
  output : w'.output = w.output
  size : w.heap.size ≤ w'.heap.size
  block : ∀ q, q < w.heap.size → q ≠ b → q ≠ c → w'.heap[q]? = w.heap[q]?
section
variable {b c : Nat} {w w' w'' : World}
theorem Turned.refl (b c : Nat) (w : World) : Turned b c w w := ⟨rfl, rfl, rfl, Nat.le_refl _, fun _ _ _ _ => rfl⟩
theorem Turned.trans (h : Turned b c w w') (k : Turned b c w' w'') : Turned b c w w'' :=
  ⟨k.os.trans h.os, k.tape.trans h.tape, k.output.trans h.output, Nat.le_trans h.size k.size, fun q h1 h2 h3 => (k.block q (Nat.lt_of_lt_of_le h1 h.size) h2 h3).trans (h.block q h1 h2 h3)⟩
theorem Turned.one (hg : w.grownBy w' (some b)) : Turned b c w w' := ⟨hg.os, hg.tape, hg.output, hg.size, fun q h1 h2 _ => hg.block q h1 (fun e => h2 (Option.some.inj e))⟩
theorem Turned.two (hg : w.grownBy w' (some c)) : Turned b c w w' := ⟨hg.os, hg.tape, hg.output, hg.size, fun q h1 _ h3 => hg.block q h1 (fun e => h3 (Option.some.inj e))⟩
theorem Turned.of_ext (hx : Ext w w') : Turned b c w w' := Turned.one (hx.grownBy _)
theorem Turned.ext {w0 : World} (h : Turned b c w w') (hx : Ext w0 w) (hb : w0.heap.size ≤ b) (hc : w0.heap.size ≤ c) : Ext w0 w' :=
  ⟨h.os.trans hx.below.os, h.tape.trans hx.below.tape, h.output.trans hx.below.output, Nat.le_trans hx.size h.size, fun q hq => (h.block q (Nat.lt_of_lt_of_le hq hx.size) (by omega) (by omega)).trans (hx.below.block q hq)⟩
theorem Turned.blk (h : Turned b c w w') {q : Nat} {cs : List Value} {t : TypeId} (hk : BlkOf w q cs t) (h1 : q ≠ b) (h2 : q ≠ c) : BlkOf w' q cs t := by
  unfold BlkOf at *; rw [h.block q (lt_of_block hk) h1 h2]; exact hk
theorem Turned.cell (h : Turned b c w w') {a : Addr} {v : Value} (hk : w.cell? a = some v) (h1 : a.block ≠ b) (h2 : a.block ≠ c) : w'.cell? a = some v := by
  rw [World.cell?_of_block (h.block a.block (World.block_lt_of_cell? w a hk) h1 h2)]; exact hk
theorem Turned.own (h : Turned b c w w') {B e sz n : Nat} {v : Value} {xs : List Value} (ho : w.ownsRow B e sz v n xs) (h1 : v.ownBlock ≠ some b) (h2 : v.ownBlock ≠ some c) : w'.ownsRow B e sz v n xs := by
  refine ⟨ho.1, ?_⟩
  rcases ho.2 with h3 | ⟨g, cap, cur, hv, hb, hg, hr⟩
  · exact .inl h3
  · subst hv
    exact .inr ⟨g, cap, cur, rfl, hb, by rw [h.block g (lt_of_block hg) (fun e => h1 (by simp [Value.ownBlock, e])) (fun e => h2 (by simp [Value.ownBlock, e]))]; exact hg, hr⟩
end
end Go.Att
end
section
namespace Go.Att
open Go.RowKit
abbrev strV (l : List UInt8) : Value := .string ⟨l.toArray⟩
def rcells (L : List UInt8) (n : Nat) (tk : Tk) (lv : Nat) : List Value :=
  [strV L, .int .i64 n, .int .i64 tk.kind, .int .i64 tk.pos, strV tk.txt, .int .i64 lv]
theorem src_index {P : Program} {T : TypeId} (hT : P.underlying T = some .string) (l : List UInt8) (i : Nat) (h : i < l.length) (w' : World) :
    (Instr.index T (strV l) (.int .i64 i)).run P w' = .ok (.int .u8 (l[i]).toNat) w' := by
  have hu := run_underlying hT
  have hg : (ByteArray.mk l.toArray)[i]? = some l[i] := by
    have hs : i < (ByteArray.mk l.toArray).size := by show i < l.toArray.size; simpa using h
    rw [getElem?_pos (ByteArray.mk l.toArray) i hs]
    simp [ByteArray.getElem_eq_getElem_data]
  simp [Instr.index, asIntOf, hu, hg]
theorem dw_nil {p : UInt8 → Bool} (l : List UInt8) : l.dropWhile p = [] ↔ ∀ x ∈ l, p x = true := by
  induction l with
  | nil => simp
  | cons a l ih =>
    rw [List.dropWhile_cons]
    split
    · rename_i h; rw [ih]; simp [h]
    · rename_i h; simp [h]
theorem trim_digits (s : List UInt8) : (Lib.trimS s [48, 49, 50, 51, 52, 53, 54, 55, 56, 57] = []) ↔ s.all digC = true := by
  have hc : ∀ c : UInt8, ([48, 49, 50, 51, 52, 53, 54, 55, 56, 57] : List UInt8).contains c = digC c := by
    intro c
    unfold digC
    rw [Bool.eq_iff_iff]
    simp only [List.contains_iff_mem, List.mem_cons, List.not_mem_nil, or_false, Bool.and_eq_true, decide_eq_true_eq, ← UInt8.toNat_inj]
    simp only [UInt8.reduceToNat]
    omega
  have hf : (fun x => ([48, 49, 50, 51, 52, 53, 54, 55, 56, 57] : List UInt8).contains x) = digC := funext hc
  unfold Lib.trimS Lib.trimLeftS Lib.trimRightS
  rw [hf, dw_nil]
  constructor
  · intro h
    rw [List.all_eq_true]
    intro x hx
    by_cases hm : x ∈ s.reverse.dropWhile digC
    · exact h x (List.mem_reverse.mpr hm)
    · have := List.takeWhile_append_dropWhile (p := digC) (l := s.reverse)
      have hx2 : x ∈ s.reverse.takeWhile digC := by
        have h3 : x ∈ s.reverse.takeWhile digC ++ s.reverse.dropWhile digC := by rw [this]; exact List.mem_reverse.mpr hx
        rcases List.mem_append.mp h3 with e | e
        · exact e
        · exact absurd e hm
      exact List.all_eq_true.mp List.all_takeWhile x hx2
  · intro h x hx
    rw [List.all_eq_true] at h
    have := List.mem_reverse.mp hx
    exact h x (List.mem_reverse.mp ((List.dropWhile_suffix digC).mem this))
end Go.Att
namespace Go.Proofs.YtgnomhbbbcfehaaGreatDoor
open Go.RowKit Go.Att Go.Shelf
def Tryz.laysTrimS_ren : Go.Shelf.Ren := ⟨fun | 160 => 89 | 232 => 123 | 231 => 122 | 227 => 124 | 234 => 126 | 233 => 125 | 236 => 128 | 235 => 127 | 228 => 160 | 271 => 163 | 151 => 162 | 197 => 161 | 120 => 184 | 152 => 183 | 260 => 182 | 137 => 51 | 119 => 195 | 224 => 196 | 225 => 197 | 217 => 91 | 266 => 129 | n => n, fun | 9 => 9 | 4 => 4 | 3 => 3 | 5 => 5 | 117 => 199 | 116 => 198 | 0 => 0 | 124 => 202 | 21 => 21 | 105 => 236 | 46 => 195 | 119 => 256 | 139 => 259 | 138 => 258 | n => n, fun | 3 => 3 | 4 => 4 | n => n⟩
theorem Tryz.laysTrimS : Go.Proofs.Lays.n160 Tryz.prog Tryz.laysTrimS_ren := {
  mixed := by kernel_rfl,
  f119 := Tryz.func195.trans (congrArg some (by kernel_rfl)),
  f120 := Tryz.func184.trans (congrArg some (by kernel_rfl)),
  f137 := Tryz.func51.trans (congrArg some (by kernel_rfl)),
  f151 := Tryz.func162.trans (congrArg some (by kernel_rfl)),
  f152 := Tryz.func183.trans (congrArg some (by kernel_rfl)),
  f160 := Tryz.func89.trans (congrArg some (by kernel_rfl)),
  f197 := Tryz.func161.trans (congrArg some (by kernel_rfl)),
  f217 := Tryz.func91.trans (congrArg some (by kernel_rfl)),
  f224 := Tryz.func196.trans (congrArg some (by kernel_rfl)),
  f225 := Tryz.func197.trans (congrArg some (by kernel_rfl)),
  f227 := Tryz.func124.trans (congrArg some (by kernel_rfl)),
  f228 := Tryz.func160.trans (congrArg some (by kernel_rfl)),
  f231 := Tryz.func122.trans (congrArg some (by kernel_rfl)),
  f232 := Tryz.func123.trans (congrArg some (by kernel_rfl)),
  f233 := Tryz.func125.trans (congrArg some (by kernel_rfl)),
  f234 := Tryz.func126.trans (congrArg some (by kernel_rfl)),
  f235 := Tryz.func127.trans (congrArg some (by kernel_rfl)),
  f236 := Tryz.func128.trans (congrArg some (by kernel_rfl)),
  f260 := Tryz.func182.trans (congrArg some (by kernel_rfl)),
  f266 := Tryz.func129.trans (congrArg some (by kernel_rfl)),
  f271 := Tryz.func163.trans (congrArg some (by kernel_rfl)),
  t0 := Tryz.underlying0,
  a0 := Tryz.isAgg0,
  z0 := Tryz.sizeOf0,
  v0 := Tryz.zeroValue0,
  t3 := Tryz.underlying3,
  a3 := Tryz.isAgg3,
  z3 := Tryz.sizeOf3,
  v3 := Tryz.zeroValue3,
  t4 := Tryz.underlying4,
  a4 := Tryz.isAgg4,
  z4 := Tryz.sizeOf4,
  v4 := Tryz.zeroValue4,
  t5 := Tryz.underlying5,
  a5 := Tryz.isAgg5,
  z5 := Tryz.sizeOf5,
  v5 := Tryz.zeroValue5,
  t9 := Tryz.underlying9,
  a9 := Tryz.isAgg9,
  z9 := Tryz.sizeOf9,
  v9 := Tryz.zeroValue9,
  t21 := Tryz.underlying21,
  a21 := Tryz.isAgg21,
  z21 := Tryz.sizeOf21,
  v21 := Tryz.zeroValue21,
  t46 := Tryz.underlying195,
  a46 := Tryz.isAgg195,
  z46 := Tryz.sizeOf195,
  v46 := Tryz.zeroValue195,
  t105 := Tryz.underlying236,
  a105 := Tryz.isAgg236,
  z105 := Tryz.sizeOf236,
  v105 := Tryz.zeroValue236,
  t116 := Tryz.underlying198,
  a116 := Tryz.isAgg198,
  z116 := Tryz.sizeOf198,
  t117 := Tryz.underlying199,
  a117 := Tryz.isAgg199,
  z117 := Tryz.sizeOf199,
  v117 := Tryz.zeroValue199,
  t119 := Tryz.underlying256,
  a119 := Tryz.isAgg256,
  z119 := Tryz.sizeOf256,
  t124 := Tryz.underlying202,
  a124 := Tryz.isAgg202,
  z124 := Tryz.sizeOf202,
  v124 := Tryz.zeroValue202,
  t138 := Tryz.underlying258,
  a138 := Tryz.isAgg258,
  z138 := Tryz.sizeOf258,
  v138 := Tryz.zeroValue258,
  t139 := Tryz.underlying259,
  a139 := Tryz.isAgg259,
  z139 := Tryz.sizeOf259,
  v139 := Tryz.zeroValue259,
  g3 := by kernel_rfl,
  g4 := by kernel_rfl }
def Tryz.laysHasP_ren : Go.Shelf.Ren := ⟨fun | 99 => 50 | 206 => 90 | n => n, fun | 9 => 9 | 4 => 4 | 3 => 3 | n => n, fun | n => n⟩
theorem Tryz.laysHasP : Go.Proofs.Lays.n99 Tryz.prog Tryz.laysHasP_ren := {
  mixed := by kernel_rfl,
  f99 := Tryz.func50.trans (congrArg some (by kernel_rfl)),
  f206 := Tryz.func90.trans (congrArg some (by kernel_rfl)),
  t3 := Tryz.underlying3,
  a3 := Tryz.isAgg3,
  z3 := Tryz.sizeOf3,
  v3 := Tryz.zeroValue3,
  t4 := Tryz.underlying4,
  a4 := Tryz.isAgg4,
  z4 := Tryz.sizeOf4,
  v4 := Tryz.zeroValue4,
  t9 := Tryz.underlying9,
  a9 := Tryz.isAgg9,
  z9 := Tryz.sizeOf9,
  v9 := Tryz.zeroValue9 }
def Tryz.laysIdxB_ren : Go.Shelf.Ren := ⟨fun | 137 => 51 | 217 => 91 | 266 => 129 | n => n, fun | 9 => 9 | 5 => 5 | 3 => 3 | n => n, fun | n => n⟩
theorem Tryz.laysIdxB : Go.Proofs.Lays.n137 Tryz.prog Tryz.laysIdxB_ren := {
  mixed := by kernel_rfl,
  f137 := Tryz.func51.trans (congrArg some (by kernel_rfl)),
  f217 := Tryz.func91.trans (congrArg some (by kernel_rfl)),
  f266 := Tryz.func129.trans (congrArg some (by kernel_rfl)),
  t3 := Tryz.underlying3,
  a3 := Tryz.isAgg3,
  z3 := Tryz.sizeOf3,
  v3 := Tryz.zeroValue3,
  t5 := Tryz.underlying5,
  a5 := Tryz.isAgg5,
  z5 := Tryz.sizeOf5,
  v5 := Tryz.zeroValue5,
  t9 := Tryz.underlying9,
  a9 := Tryz.isAgg9,
  z9 := Tryz.sizeOf9,
  v9 := Tryz.zeroValue9 }
set_option maxRecDepth 100000 in
theorem sdig_any (c : UInt8) (w : World) : Calls Tryz.prog 87 #[.int .u8 c.toNat] w fun e w' => e = .returned (.bool (digC c)) ∧ w = w' := by
  have HF := Lib.hid (show digC c = (decide (48 ≤ c.toNat) && decide (c.toNat ≤ 57)) from rfl)
  by_cases h : 48 ≤ c.toNat
  · have h2 : (48 : Int) ≤ c.toNat := by omega
    have HF2 := Lib.hid (HF.out.trans (by rw [decide_eq_true h, Bool.true_and]))
    have HQ := Lib.hid (show decide ((c.toNat : Int) ≤ 57) = decide (c.toNat ≤ 57) from by rw [decide_eq_decide]; omega)
    generalize digC c = v at *
    generalize c.toNat = n at *
    go_enter Tryz.func87, Tryz.ntmps87
    go_wp2
    go_ret
    exact ⟨by rw [HF2.out, ← HQ.out]; trivial, rfl⟩
  · have h2 : ¬ (48 : Int) ≤ c.toNat := by omega
    have HF2 := Lib.hid (HF.out.trans (by rw [decide_eq_false h, Bool.false_and]))
    generalize digC c = v at *
    generalize c.toNat = n at *
    go_enter Tryz.func87, Tryz.ntmps87
    go_wp2
    go_ret
    exact ⟨by rw [HF2.out]; trivial, rfl⟩
set_option maxRecDepth 100000 in
theorem slet_any (c : UInt8) (w : World) : Calls Tryz.prog 88 #[.int .u8 c.toNat] w fun e w' => e = .returned (.bool (letC c)) ∧ w = w' := by
  have HF := Lib.hid (show letC c = ((decide (97 ≤ c.toNat) && decide (c.toNat ≤ 122)) || (decide (65 ≤ c.toNat) && decide (c.toNat ≤ 90))) from rfl)
  generalize letC c = v at *
  generalize c.toNat = n at *
  have HV := Lib.hid (show v = (decide ((97 : Int) ≤ n) && decide ((n : Int) ≤ 122) || (decide ((65 : Int) ≤ n) && decide ((n : Int) ≤ 90))) from by
    rw [HF.out]; congr 2 <;> (rw [decide_eq_decide]; omega))
  clear HF
  by_cases h1 : (97 : Int) ≤ n <;> by_cases h2 : (n : Int) ≤ 122 <;> by_cases h3 : (65 : Int) ≤ n <;> by_cases h4 : (n : Int) ≤ 90
  all_goals
    first
    | (exfalso; omega)
    | skip
  all_goals
    go_enter Tryz.func88, Tryz.ntmps88
    go_wp2
    go_ret
    exact ⟨by rw [HV.out]; simp [h1, h2, h3, h4], rfl⟩
set_option maxRecDepth 100000 in
theorem sjoin_any (c : UInt8) (w : World) : Calls Tryz.prog 48 #[.int .u8 c.toNat] w fun e w' => e = .returned (.bool (joinC c)) ∧ w = w' := by
  have HF := Lib.hid (show joinC c = (digC c || letC c || ((c.toNat : Int) == 95)) from by
    unfold joinC; congr 1; rw [Bool.eq_iff_iff]; simp only [beq_iff_eq]; omega)
  have C1 := Lib.hid (sdig_any c)
  have C2 := Lib.hid (slet_any c)
  generalize joinC c = v at *
  generalize digC c = d at *
  generalize letC c = l at *
  generalize c.toNat = n at *
  cases d <;> cases l
  all_goals
    go_enter Tryz.func48, Tryz.ntmps48
    go_wp2_with (first | (go_at_call 87; refine (C1.out _).mono ?_; rintro e w1 ⟨rfl, rfl⟩) | (go_at_call 88; refine (C2.out _).mono ?_; rintro e w1 ⟨rfl, rfl⟩))
    go_ret
    exact ⟨by rw [HF.out]; simp, rfl⟩
theorem strim_any (s : List UInt8) (hs : s.length ≤ 4000) (w : World) : Calls Tryz.prog 89 #[strV s, .string ⟨#[48, 49, 50, 51, 52, 53, 54, 55, 56, 57]⟩] w fun e w' => e = .returned (strV (Lib.trimS s [48, 49, 50, 51, 52, 53, 54, 55, 56, 57])) ∧ Ext w w' := by
  refine (Any.strings_Trim_laid Tryz.laysTrimS (by kernel_rfl) ⟨s.toArray⟩ ⟨#[48, 49, 50, 51, 52, 53, 54, 55, 56, 57]⟩ w (by show s.toArray.size ≤ _; simp; omega) (by decide) (ascii_of_all (by decide))).mono ?_
  rintro e w' ⟨rfl, h⟩
  exact ⟨by simp [strV], h⟩
theorem shasp_any (s : List UInt8) (w : World) : Calls Tryz.prog 50 #[strV s, .string ⟨#[61, 61]⟩] w fun e w' => e = .returned (.bool (([61, 61] : List UInt8).isPrefixOf s)) ∧ w = w' := by
  refine (Any.strings_HasPrefix Tryz.laysHasP ⟨s.toArray⟩ ⟨#[61, 61]⟩ w).mono ?_
  rintro e w' ⟨rfl, rfl⟩
  exact ⟨rfl, rfl⟩
theorem sidx_any (s : List UInt8) (c : UInt8) (w : World) : Calls Tryz.prog 51 #[strV s, .int .u8 c.toNat] w fun e w' => e = .returned (.int .i64 (Lib.indexByte s c)) ∧ w = w' := by
  refine (Any.strings_IndexByte Tryz.laysIdxB ⟨s.toArray⟩ c.toNat w).mono ?_
  rintro e w' ⟨rfl, rfl⟩
  exact ⟨by simp, rfl⟩
set_option maxRecDepth 100000 in
theorem skind_any (s : List UInt8) (hs : s.length ≤ 4000) (hne : s ≠ []) (w : World) : Calls Tryz.prog 49 #[strV s] w fun e w' => e = .returned (.int .i64 (kindW s)) ∧ Ext w w' := by
  obtain ⟨c, t, e⟩ := List.exists_cons_of_ne_nil hne
  have h0 : s[0]'(by rw [e]; simp) = c := by simp [e]
  have hix : ∀ w', (Instr.index 9 (.string ⟨s.toArray⟩) (.int .i64 0)).run Tryz.prog w' = .ok (.int .u8 c.toNat) w' := fun w' => by
    rw [← h0]; exact src_index (P := Tryz.prog) (T := 9) Tryz.underlying9 s 0 (by rw [e]; simp) w'
  have hK : kindW s = if letC c then 1 else if s.all digC && (decide (c.toNat ≠ 48) || decide (s.length = 1)) then 2 else 4 := by
    unfold kindW; rw [e]; rfl
  have HK := Lib.hid hK
  have C1 := Lib.hid (slet_any c)
  have C2 := Lib.hid (strim_any s hs)
  have HT := Lib.hid (trim_digits s)
  have H2 := Lib.hid (show (s = [48]) ↔ (c.toNat = 48 ∧ s.length = 1) from by
    rw [e]; simp [← UInt8.toNat_inj])
  clear hK e h0 hs
  cases hl : letC c with
  | true =>
    rw [hl] at HK C1
    clear HT H2 C2
    go_enter Tryz.func49, Tryz.ntmps49
    go_wp2_with (go_at_call 88; refine (C1.out _).mono ?_; rintro e w1 ⟨rfl, rfl⟩)
    go_ret
    exact ⟨by rw [HK.out]; rfl, Ext.refl _⟩
  | false =>
    rw [hl] at HK C1
    cases ha : s.all digC with
    | false =>
      have hq : Lib.trimS s [48, 49, 50, 51, 52, 53, 54, 55, 56, 57] ≠ [] := fun e => by have := HT.out.mp e; rw [ha] at this; cases this
      generalize Lib.trimS s [48, 49, 50, 51, 52, 53, 54, 55, 56, 57] = q at *
      have HQ := Lib.hid hq
      rw [ha] at HK
      clear HT H2 ha hq
      go_enter Tryz.func49, Tryz.ntmps49
      go_wp2_with (first | (go_at_call 88; refine (C1.out _).mono ?_; rintro e w1 ⟨rfl, rfl⟩) | (go_at_call 89; refine (C2.out _).mono ?_; rintro e w1 ⟨rfl, hx⟩))
      go_ret
      exact ⟨by rw [HK.out]; rfl, hx⟩
    | true =>
      have hq := HT.out.mpr ha
      rw [hq] at C2
      rw [ha] at HK
      have HN := Lib.hid hne
      clear HT ha hq
      by_cases h48 : c.toNat = 48
      · have hb : ((c.toNat : Int) != 48) = false := by rw [h48]; rfl
        have hb1 : (s == [48]) = decide (s.length = 1) := by
          rw [Bool.eq_iff_iff, beq_iff_eq, decide_eq_true_eq, H2.out]; exact ⟨fun h => h.2, fun h => ⟨h48, h⟩⟩
        have HK2 := Lib.hid (HK.out.trans (show _ = if decide (s.length = 1) then 2 else 4 from by rw [h48]; simp))
        generalize decide (s.length = 1) = v at *
        clear HK H2 hne HN h48
        cases v
        all_goals
          go_enter Tryz.func49, Tryz.ntmps49
          go_wp2_with (first | (go_at_call 88; refine (C1.out _).mono ?_; rintro e w1 ⟨rfl, rfl⟩) | (go_at_call 89; refine (C2.out _).mono ?_; rintro e w1 ⟨rfl, hx⟩))
          go_ret
          exact ⟨by rw [HK2.out]; rfl, hx⟩
      · have hb : ((c.toNat : Int) != 48) = true := by rw [bne_iff_ne]; omega
        have HK2 := Lib.hid (HK.out.trans (show _ = 2 from by rw [decide_eq_true (p := c.toNat ≠ 48) h48]; rfl))
        clear HK H2
        go_enter Tryz.func49, Tryz.ntmps49
        go_wp2_with (first | (go_at_call 88; refine (C1.out _).mono ?_; rintro e w1 ⟨rfl, rfl⟩) | (go_at_call 89; refine (C2.out _).mono ?_; rintro e w1 ⟨rfl, hx⟩))
        go_ret
        exact ⟨by rw [HK2.out]; rfl, hx⟩
end Go.Proofs.YtgnomhbbbcfehaaGreatDoor
end
