/- The machine, plain: cells that are told once; a step; a run. No program in sight. -/
import Derived.Test.YtejkepihicphlaaGreatDoorPl
namespace Go.Att
structure In4 where
  op : Int
  a : Int
  b : Int
  c : Int
structure Ms where
  pc : Int
  fp : Int
  ap : Int
  rv : Int
  mem : List (Int × Int)
  acc : List (Int × Int)
inductive Rs where
  | go (v : Int) (s : Ms)
  | no (e : Int)
def Rs.bind : Rs → (Int → Ms → Rs) → Rs
  | .go v s, f => f v s
  | .no e, _ => .no e
def lk (m : List (Int × Int)) (at_ : Int) : Option Int := (m.find? fun c => c.1 == at_).map Prod.snd
def Ms.look (s : Ms) (at_ : Int) : Rs := match lk s.mem at_ with
  | none => .no 10
  | some v => .go v { s with acc := s.acc ++ [(at_, v)] }
def Ms.tell (s : Ms) (at_ is : Int) : Rs := match lk s.mem at_ with
  | some v => if v = is then .go 0 { s with acc := s.acc ++ [(at_, is)] } else .no 7
  | none => .go 0 { s with mem := s.mem ++ [(at_, is)], acc := s.acc ++ [(at_, is)] }
def isCmp (op : Int) : Bool := op == 1 || op == 2 || op == 3 || op == 4 || op == 6
def reck (p op x y : Int) : Int := if op = 1 then fadd p x y else if op = 2 then fsub p x y else if op = 3 then fmul p x y else if op = 4 then fdiv p x y else if x = y then 1 else 0
def Ms.comp (p : Int) (s : Ms) (x : In4) : Rs := (s.look (fadd p s.fp x.a)).bind fun u s => (s.look (fadd p s.fp x.b)).bind fun v s =>
  if x.op = 4 ∧ v = 0 then .no 7 else s.tell (fadd p s.fp x.c) (reck p x.op u v)
def Ms.call (p : Int) (s : Ms) (x : In4) : Rs := (s.tell s.ap s.fp).bind fun _ s => (s.tell (fadd p s.ap 1) (fadd p s.pc 1)).bind fun _ s =>
  .go 0 { s with fp := fadd p s.ap 2, ap := fadd p (fadd p s.ap 2) x.b, pc := fof p x.a }
def Ms.back (p : Int) (s : Ms) (x : In4) : Rs := (s.look (fadd p s.fp (-2))).bind fun f s => (s.look (fadd p s.fp (-1))).bind fun q s => (s.look (fadd p s.fp x.a)).bind fun r s =>
  .go 0 { s with rv := r, fp := f, pc := q }
def Ms.to (n : Int) (_ : Int) (s : Ms) : Rs := .go 0 { s with pc := n }
def Ms.one (p : Int) (s : Ms) (x : In4) : Rs :=
  if isCmp x.op then (s.comp p x).bind (Ms.to (fadd p s.pc 1))
  else if x.op = 5 then (s.tell (fadd p s.fp x.a) (fof p x.b)).bind (Ms.to (fadd p s.pc 1))
  else if x.op = 7 then (s.look (fadd p s.fp x.a)).bind fun u t => (t.look (fadd p s.fp x.b)).bind fun v t => if u = v then Ms.to (fadd p s.pc 1) 0 t else .no 7
  else if x.op = 8 then Ms.to (fof p x.a) 0 s
  else if x.op = 9 then (s.look (fadd p s.fp x.a)).bind fun u t => Ms.to (if u = 0 then fof p x.b else fadd p s.pc 1) 0 t
  else if x.op = 10 then s.call p x
  else if x.op = 11 then s.back p x
  else if x.op = 12 then (s.tell (fadd p s.fp x.a) s.rv).bind (Ms.to (fadd p s.pc 1))
  else if x.op = 13 then (s.look (fadd p s.fp x.a)).bind fun u t => (t.tell (fadd p (fadd p s.ap 2) x.b) u).bind (Ms.to (fadd p s.pc 1))
  else .no 7
def nthI (l : List In4) (i : Nat) : In4 := l.getD i ⟨0, 0, 0, 0⟩
structure Okm (p : Int) (s : Ms) : Prop where
  pc : 0 ≤ s.pc ∧ s.pc < p
  fp : 0 ≤ s.fp ∧ s.fp < p
  ap : 0 ≤ s.ap ∧ s.ap < p
  rv : 0 ≤ s.rv ∧ s.rv < p
  mem : ∀ c ∈ s.mem, (0 ≤ c.1 ∧ c.1 < p) ∧ (0 ≤ c.2 ∧ c.2 < p)
  acc : ∀ c ∈ s.acc, lk s.mem c.1 = some c.2
theorem lk_app (m : List (Int × Int)) (i j v : Int) : lk (m ++ [(i, v)]) j = match lk m j with | some x => some x | none => if i = j then some v else none := by
  unfold lk
  rw [List.find?_append]
  cases h : m.find? (fun c => c.1 == j) with
  | some x => simp
  | none => by_cases e : i = j <;> simp [e]
theorem lk_new {m : List (Int × Int)} {i v : Int} (h : lk m i = none) : lk (m ++ [(i, v)]) i = some v := by rw [lk_app, h]; simp
section
variable {p : Int} {s s' : Ms} {i v x : Int}
end
structure Aft (p : Int) (s s' : Ms) (k : Nat) : Prop where
  ok : Okm p s'
  len : s'.acc.length ≤ s.acc.length + k
  keep : ∀ j y, lk s.mem j = some y → lk s'.mem j = some y
  size : s'.mem.length ≤ s.mem.length + k
theorem Aft.trans {p : Int} {s t u : Ms} {j k : Nat} (h1 : Aft p s t j) (h2 : Aft p t u k) : Aft p s u (j + k) :=
  ⟨h2.ok, by have := h1.len; have := h2.len; omega, fun i y hy => h2.keep _ _ (h1.keep _ _ hy), by have := h1.size; have := h2.size; omega⟩
theorem Aft.le {p : Int} {s t : Ms} {j k : Nat} (h1 : Aft p s t j) (h : j ≤ k) : Aft p s t k := ⟨h1.ok, by have := h1.len; omega, h1.keep, by have := h1.size; omega⟩
end Go.Att
