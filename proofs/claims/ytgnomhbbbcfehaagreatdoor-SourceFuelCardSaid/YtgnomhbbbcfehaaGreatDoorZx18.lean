/- Programs as text, in plain words: tokens, and how a text is read. No program in sight. Programs as text, in plain words: what is written once more, how much it weighs, whether its names stand for something. No program in sight. From a law's walk to its row: what a law leaves behind; how arguments read. No function in sight. -/
import Derived.Test.YtgnomhbbbcfehaaGreatDoorVc
import Derived.Lib.AtoiAll
import Derived.Lib.ItoaNum
import Derived.ProofKit
import Derived.OpenShut
import Derived.Deep.SlicePairs
import Derived.Carry
import Derived.Deep.Slices
section
namespace Go.Att
inductive Tr where
  | mk (kind : Nat) (num : Int) (name : List UInt8) (kids : List Tr) (pos : Nat)
structure Tk where
  kind : Nat
  pos : Nat
  txt : List UInt8
deriving DecidableEq
def digC (c : UInt8) : Bool := decide (48 ≤ c.toNat) && decide (c.toNat ≤ 57)
def letC (c : UInt8) : Bool := (decide (97 ≤ c.toNat) && decide (c.toNat ≤ 122)) || (decide (65 ≤ c.toNat) && decide (c.toNat ≤ 90))
def joinC (c : UInt8) : Bool := digC c || letC c || c.toNat == 95
def skipL : Bool → List UInt8 → Nat
  | _, [] => 0
  | false, c :: t => if c.toNat = 32 ∨ c.toNat = 9 ∨ c.toNat = 10 then 1 + skipL false t else if c.toNat = 35 then 1 + skipL true t else 0
  | true, c :: t => if c.toNat = 10 then 1 + skipL false t else 1 + skipL true t
def kindW (s : List UInt8) : Nat :=
  if letC (s.headD 0) then 1 else if s.all digC && (decide ((s.headD 0).toNat ≠ 48) || decide (s.length = 1)) then 2 else 4
def signs1 : List Nat := [40, 41, 44, 59, 61, 43, 45, 42, 47]
def tokL (s : List UInt8) (k : Nat) : Tk :=
  match s with
  | [] => ⟨0, k, []⟩
  | c :: t =>
    if joinC c then ⟨kindW (s.takeWhile joinC), k, s.takeWhile joinC⟩
    else if c.toNat = 61 ∧ (t.headD 0).toNat = 61 then ⟨3, k, [61, 61]⟩
    else if c.toNat ∈ signs1 then ⟨3, k, [c]⟩
    else ⟨4, k, [c]⟩
def tokN (l : List UInt8) (i : Nat) : Tk := tokL (l.drop (i + skipL false (l.drop i))) (i + skipL false (l.drop i))
def nxtN (l : List UInt8) (i : Nat) : Nat := (tokN l i).pos + (tokN l i).txt.length
inductive Ps (α : Type) where
  | ok (x : α) (i : Nat)
  | bad (pos e : Nat)
def Ps.bind {α β : Type} (r : Ps α) (f : α → Nat → Ps β) : Ps β :=
  match r with
  | .ok x i => f x i
  | .bad a e => .bad a e
def isT (l : List UInt8) (i : Nat) (s : List UInt8) : Bool := (decide ((tokN l i).kind = 3) || decide ((tokN l i).kind = 1)) && decide ((tokN l i).txt = s)
def mustT (l : List UInt8) (i : Nat) (s : List UInt8) : Ps Unit := if isT l i s then .ok () (nxtN l i) else .bad (tokN l i).pos 5
def enterT (l : List UInt8) (k i : Nat) : Ps Unit := if k = 0 then .bad (tokN l i).pos 9 else .ok () (nxtN l i)
def ownW : List (List UInt8) := [[102, 110], [108, 101, 116], [110, 101, 101, 100], [105, 102], [116, 104, 101, 110], [101, 108, 115, 101]]
def nameT (l : List UInt8) (i : Nat) : Ps (List UInt8 × Nat) :=
  if (tokN l i).kind ≠ 1 ∨ (tokN l i).txt ∈ ownW then .bad (tokN l i).pos 5
  else if 16 < (tokN l i).txt.length then .bad (tokN l i).pos 3
  else .ok ((tokN l i).txt, (tokN l i).pos) (nxtN l i)
def moreT {α : Type} (l : List UInt8) (one : Nat → Ps α) : Nat → List α → Nat → Ps (List α)
  | 0, _, _ => .bad 0 0
  | n + 1, acc, j => if isT l j [44] then (one (nxtN l j)).bind fun x j => moreT l one n (acc ++ [x]) j else (mustT l j [41]).bind fun _ j => .ok acc j
def listT {α : Type} (l : List UInt8) (k : Nat) (one : Nat → Ps α) (i : Nat) : Ps (List α) :=
  if isT l i [40] then
    (enterT l k i).bind fun _ i =>
      if isT l i [41] then .ok [] (nxtN l i) else (one i).bind fun x j => moreT l one (l.length + 1) [x] j
  else .bad (tokN l i).pos 5
def leftsT (l : List UInt8) (next : Nat → Ps Tr) (a : List UInt8) (ka : Nat) (b : List UInt8) (kb : Nat) : Nat → Tr → Nat → Ps Tr
  | 0, _, _ => .bad 0 0
  | n + 1, x, j =>
    if isT l j a then (next (nxtN l j)).bind fun y i => leftsT l next a ka b kb n (.mk ka 0 [] [x, y] (tokN l j).pos) i
    else if isT l j b then (next (nxtN l j)).bind fun y i => leftsT l next a ka b kb n (.mk kb 0 [] [x, y] (tokN l j).pos) i
    else .ok x j
def joinT (l : List UInt8) (next : Nat → Ps Tr) (a : List UInt8) (ka : Nat) (b : List UInt8) (kb : Nat) (i : Nat) : Ps Tr :=
  (next i).bind fun x j => leftsT l next a ka b kb (l.length + 1) x j
def prodT (l : List UInt8) (part : Nat → Ps Tr) : Nat → Ps Tr := joinT l part [42] 4 [47] 5
def sumT (l : List UInt8) (part : Nat → Ps Tr) : Nat → Ps Tr := joinT l (prodT l part) [43] 2 [45] 3
def partT (l : List UInt8) (k : Nat) (P E : Nat → Ps Tr) (i : Nat) : Ps Tr :=
  if (tokN l i).kind = 2 then
    match Lib.atoiAll (tokN l i).txt with
    | .ok n => .ok (.mk 0 n [] [] (tokN l i).pos) (nxtN l i)
    | _ => .bad (tokN l i).pos 3
  else if isT l i [40] then (enterT l k i).bind fun _ j => (E j).bind fun x j => (mustT l j [41]).bind fun _ j => .ok x j
  else if isT l i [45] then (enterT l k i).bind fun _ j => (P j).bind fun x j => .ok (.mk 7 0 [] [x] (tokN l i).pos) j
  else (nameT l i).bind fun s j =>
    if isT l j [40] then (listT l k E j).bind fun kids j => .ok (.mk 11 0 s.1 kids s.2) j else .ok (.mk 1 0 s.1 [] s.2) j
def exprT (l : List UInt8) (k : Nat) (S E S0 : Nat → Ps Tr) (i : Nat) : Ps Tr :=
  if isT l i [108, 101, 116] then
    (enterT l k i).bind fun _ j => (nameT l j).bind fun s j => (mustT l j [61]).bind fun _ j => (E j).bind fun a j => (mustT l j [59]).bind fun _ j => (E j).bind fun b j => .ok (.mk 8 0 s.1 [a, b] s.2) j
  else if isT l i [110, 101, 101, 100] then
    (enterT l k i).bind fun _ j => (S j).bind fun a j => (mustT l j [61, 61]).bind fun _ j => (S j).bind fun b j => (mustT l j [59]).bind fun _ j => (E j).bind fun c j => .ok (.mk 9 0 [] [a, b, c] (tokN l i).pos) j
  else if isT l i [105, 102] then
    (enterT l k i).bind fun _ j => (E j).bind fun a j => (mustT l j [116, 104, 101, 110]).bind fun _ j => (E j).bind fun b j => (mustT l j [101, 108, 115, 101]).bind fun _ j => (E j).bind fun c j => .ok (.mk 10 0 [] [a, b, c] (tokN l i).pos) j
  else
    (S0 i).bind fun a j => if isT l j [61, 61] then (S0 (nxtN l j)).bind fun b j => .ok (.mk 6 0 [] [a, b] (tokN l i).pos) j else .ok a j
def readT (l : List UInt8) : Nat → (Nat → Ps Tr) × (Nat → Ps Tr)
  | 0 => (fun _ => .bad 0 0, fun _ => .bad 0 0)
  | k + 1 => (partT l k (readT l k).1 (readT l k).2, exprT l k (sumT l (readT l k).1) (readT l k).2 (sumT l (partT l k (readT l k).1 (readT l k).2)))
structure Fn where
  name : List UInt8
  pos : Nat
  names : List (List UInt8 × Nat)
  body : Tr
def funT (l : List UInt8) (i : Nat) : Ps Fn :=
  (mustT l i [102, 110]).bind fun _ j => (nameT l j).bind fun s j => (listT l 64 (nameT l) j).bind fun ns j => (mustT l j [61]).bind fun _ j => ((readT l 65).2 j).bind fun b j => .ok ⟨s.1, s.2, ns, b⟩ j
def funsT (l : List UInt8) : Nat → List Fn → Nat → Ps (List Fn)
  | 0, _, _ => .bad 0 0
  | n + 1, acc, j => if (tokN l j).kind = 0 then .ok acc j else (funT l j).bind fun f j => funsT l n (acc ++ [f]) j
end Go.Att
end
section
namespace Go.Att
section
variable {β : Type}
mutual
def foldT (f : Nat → Int → List UInt8 → List β → Nat → β) : Tr → β
  | .mk k n s ks p => f k n s (foldTs f ks) p
def foldTs (f : Nat → Int → List UInt8 → List β → Nat → β) : List Tr → List β
  | [] => []
  | t :: r => foldT f t :: foldTs f r
end
end
theorem foldTs_eq {β : Type} (f : Nat → Int → List UInt8 → List β → Nat → β) (l : List Tr) : foldTs f l = l.map (foldT f) := by
  induction l with
  | nil => rw [foldTs]; rfl
  | cons t r ih => rw [foldTs, ih]; rfl
theorem foldT_mk {β : Type} (f : Nat → Int → List UInt8 → List β → Nat → β) (k : Nat) (n : Int) (s : List UInt8) (ks : List Tr) (p : Nat) : foldT f (.mk k n s ks p) = f k n s (ks.map (foldT f)) p := by rw [foldT, foldTs_eq]
theorem Tr.ind {P : Tr → Prop} (h : ∀ k n s ks p, (∀ t ∈ ks, P t) → P (.mk k n s ks p)) (t : Tr) : P t :=
  Tr.rec (motive_1 := P) (motive_2 := fun l => ∀ t ∈ l, P t) (fun k n s ks p ih => h k n s ks p ih) (fun t ht => by cases ht) (fun a r h1 h2 t ht => by
    rcases List.mem_cons.mp ht with e | e
    · exact e ▸ h1
    · exact h2 t e) t
def Tr.kind : Tr → Nat | .mk k _ _ _ _ => k
def Tr.num : Tr → Int | .mk _ n _ _ _ => n
def Tr.name : Tr → List UInt8 | .mk _ _ s _ _ => s
def Tr.kids : Tr → List Tr | .mk _ _ _ ks _ => ks
def Tr.pos : Tr → Nat | .mk _ _ _ _ p => p
def erT : Tr → Tr := foldT fun k n s ks _ => .mk k n s ks 0
theorem erT_mk (k : Nat) (n : Int) (s : List UInt8) (ks : List Tr) (p : Nat) : erT (.mk k n s ks p) = .mk k n s (ks.map erT) 0 := foldT_mk _ _ _ _ _ _
theorem foldT_er {β : Type} (f : Nat → Int → List UInt8 → List β → Nat → β) (hf : ∀ k n s ks p q, f k n s ks p = f k n s ks q) (t : Tr) : foldT f (erT t) = foldT f t := by
  induction t using Tr.ind with
  | h k n s ks p ih =>
    rw [erT_mk, foldT_mk, foldT_mk, List.map_map, hf k n s _ 0 p]
    congr 1
    exact List.map_congr_left ih
def weiT : Tr → Nat := foldT fun _ _ _ ks _ => 1 + ks.sum
def lvT (k : Nat) : Nat := if k = 8 ∨ k = 9 ∨ k = 10 then 0 else if k = 6 then 1 else if k = 2 ∨ k = 3 then 2 else if k = 4 ∨ k = 5 then 3 else 4
def signT (k : Nat) : List UInt8 := if k = 2 then [32, 43, 32] else if k = 3 then [32, 45, 32] else if k = 4 then [32, 42, 32] else if k = 5 then [32, 47, 32] else [32, 61, 61, 32]
def commaT : List (List UInt8) → List UInt8
  | [] => []
  | [a] => a
  | a :: b :: r => a ++ [44, 32] ++ commaT (b :: r)
def bodyT (k : Nat) (n : Int) (s : List UInt8) (ks : List (Nat → List UInt8)) : List UInt8 :=
  let x (i least : Nat) : List UInt8 := (ks.getD i fun _ => []) least
  if k = 0 then Lib.itoa n
  else if k = 7 then [45] ++ x 0 4
  else if k = 8 then [108, 101, 116, 32] ++ s ++ [32, 61, 32] ++ x 0 0 ++ [59, 32] ++ x 1 0
  else if k = 9 then [110, 101, 101, 100, 32] ++ x 0 2 ++ [32, 61, 61, 32] ++ x 1 2 ++ [59, 32] ++ x 2 0
  else if k = 10 then [105, 102, 32] ++ x 0 0 ++ [32, 116, 104, 101, 110, 32] ++ x 1 0 ++ [32, 101, 108, 115, 101, 32] ++ x 2 0
  else if k = 6 then x 0 2 ++ signT k ++ x 1 2
  else if k = 2 ∨ k = 3 ∨ k = 4 ∨ k = 5 then x 0 (lvT k) ++ signT k ++ x 1 (lvT k + 1)
  else if k = 11 then s ++ ([40] ++ commaT (ks.map fun f => f 0) ++ [41])
  else s
def prT : Tr → Nat → List UInt8 := foldT fun k n s ks _ least => if lvT k < least then [40] ++ bodyT k n s ks ++ [41] else bodyT k n s ks
theorem prT_mk (k : Nat) (n : Int) (s : List UInt8) (ks : List Tr) (p least : Nat) : prT (.mk k n s ks p) least = if lvT k < least then [40] ++ bodyT k n s (ks.map prT) ++ [41] else bodyT k n s (ks.map prT) := by
  unfold prT; rw [foldT_mk]
def prF (f : Fn) : List UInt8 := [102, 110, 32] ++ f.name ++ [40] ++ commaT (f.names.map (·.1)) ++ [41, 32, 61, 32] ++ prT f.body 0 ++ [10]
def prP (fs : List Fn) : List UInt8 := fs.flatMap prF
def weiP (fs : List Fn) : Nat := (fs.map fun f => f.names.length + weiT f.body).sum
def chkT (fs : List (List UInt8 × Nat)) : Tr → List (List UInt8) → Option (Nat × Nat) := foldT fun k _ s ks p sc =>
  if k = 1 ∧ s ∉ sc then some (p, 6)
  else if k = 11 ∧ (s, ks.length) ∉ fs then some (p, 6)
  else if k = 8 then
    if s ∈ sc then some (p, 4) else ((ks.getD 0 fun _ => none) sc).or ((ks.getD 1 fun _ => none) (s :: sc))
  else ks.foldl (fun r c => r.or (c sc)) none
def twiceN : List (List UInt8) → List (List UInt8 × Nat) → Option (Nat × Nat)
  | _, [] => none
  | seen, x :: r => if x.1 ∈ seen then some (x.2, 4) else twiceN (x.1 :: seen) r
def arit (fs : List Fn) : List (List UInt8 × Nat) := fs.map fun f => (f.name, f.names.length)
def chkF (all : List (List UInt8 × Nat)) : List (List UInt8) → List Fn → Option (Nat × Nat)
  | _, [] => none
  | seen, f :: r => if f.name ∈ seen then some (f.pos, 4) else ((twiceN [] f.names).or (chkT all f.body (f.names.map (·.1)))).or (chkF all (f.name :: seen) r)
def mainW : List UInt8 := [109, 97, 105, 110]
def chkP (l : List UInt8) (fs : List Fn) : Option (Nat × Nat) := (chkF (arit fs) [] fs).or (if mainW ∈ fs.map (·.name) then none else some (l.length, 6))
def parseT (l : List UInt8) : Ps (List Fn) :=
  if 4000 < l.length then .bad 0 9
  else (funsT l (l.length + 1) [] 0).bind fun fs j => match chkP l fs with | some (a, e) => .bad a e | none => .ok fs j
end Go.Att
end
section
/-! From a law's walk to its row: what a law leaves behind; how arguments read. No function in sight. -/
namespace Go.Att
open Go.RowKit Go.ChangeShapes Go.WideShapes Go.Deep

section
variable {H : Type} {enc : TypeId × Value → H} {P : Program}
theorem trodAll_below (hl : laidOutB P = true) {W W' : World} (hb : Ext W W') : ∀ {ts : List TypeId} {vs : List Value} {ds : List (DataW H)} {ps : List MemPlace},
    (∀ t ∈ ts, P.readableRec t = true ∧ t < P.types.size) → DataW.TrodAll enc P W 0 (fun _ => true) true ts vs ds ps → (∀ x ∈ ps, x.block < W.heap.size) →
    DataW.TrodAll enc P W' 0 (fun b => decide (b < W.heap.size)) true ts vs ds ps
  | [], vs, ds, ps, _, h, _ => by
    obtain ⟨rfl, rfl, rfl⟩ := trodAll_nil h
    exact trodAll_mk0
  | t :: ts, vs, ds, ps, hr, h, hlt => by
    obtain ⟨v, vs', d, ds', p, q, rfl, rfl, rfl, h1, h2⟩ := trodAll_cons h
    obtain ⟨r1, r2⟩ := hr t (by simp)
    exact trodAll_cons_mk (Below.trod hl r1 r2 h1 hb (fun x hx => hlt x (by simp [hx]))) (trodAll_below hl hb (fun t ht => hr t (by simp [ht])) h2 (fun x hx => hlt x (by simp [hx])))

theorem law_post {f : Func} {s : ChangeSpec} {W W' : World} {args : Array Value} {ds gs : List (DataW H)} {before : List MemPlace} {tb : TypeId} (hl : laidOutB P = true)
    (hpar : f.params.toList.all (fun t => P.readableRec t && decide (t < P.types.size)) = true) (hres : f.resultTypes = #[tb]) (htb : P.underlying tb = some .bool) (hsv : s.vars = [])
    (hW : DataW.Whole enc P f.params.toList s.vars false W args.toList ds gs before) (hfn : s.fn H ds = { results := [.lit (.bool true)], args := ds }) (hx : Ext W W') :
    s.post enc P f false true false false W args (.bool true) W' := by
  have hW' := hW
  obtain ⟨p, q, hA, hV, rfl, hfz, hnd⟩ := hW
  rw [hsv] at hV
  obtain ⟨rfl, rfl⟩ : gs = [] ∧ q = [] := by
    cases gs with
    | nil => exact ⟨rfl, hV⟩
    | cons g r => exact absurd hV (by intro h; cases h)
  have hlt : ∀ x ∈ p, x.block < W.heap.size := fun x hx => hW'.lt x (by simpa using hx)
  have hpar' : ∀ t ∈ f.params.toList, P.readableRec t = true ∧ t < P.types.size := fun t ht => by
    have := List.all_eq_true.1 hpar t ht
    simpa using this
  refine ⟨ds, [], _, [], p, [], hW', ?_, ?_, ?_, World.keptBut_mono (fun x hx => ?_) (Below.frame hx (fun _ => False)), fun h => by cases h⟩
  · rw [List.append_nil, hfn, hres]
    exact trodAll_mk1 (shut_bool htb true)
  · rw [List.append_nil, hfn]
    exact trodAll_below hl hx hpar' hA hlt
  · rw [List.append_nil, hfn, hsv]; rfl
  · exact hx.elim
end

section
variable {H : Type} {enc : TypeId × Value → H} {P : Program} {w : World} {base : Nat} {spare : Nat → Bool} {held : Bool}
theorem open_IntsF {fuel : Nat} {t e : TypeId} {v : Value} {d : DataW H} {p : List MemPlace} (ht : P.underlying t = some (.slice e)) (he : P.underlying e = some (.int .i64)) (hc : P.cellsOf e = 1)
    (hf : DataW.trod enc P w base spare held fuel t [v] = some (d, p)) : ∃ l : List Int, Ints w v l ∧ (l = [] ∨ ∃ es sp, d = .slice es sp ∧ es.length = l.length) := by
  rcases open_ints ht he hc hf with ⟨h1, h2⟩ | ⟨a, len, cap, zs, h1, h2, h3, h4, h5, h6, h7, h8⟩
  · simp at h1 h2
    subst h1
    exact ⟨[], Ints.nil _, .inl rfl⟩
  · simp at h1 h6
    subst h1
    have hlz : len ≤ zs.length := by rw [h5]; split <;> omega
    refine ⟨zs.take len, ⟨some a, cap, ?_, ?_, ?_, h4, fun i hi => ?_⟩, .inr ⟨_, _, h6.1, by simp [lits]⟩⟩
    · simp; omega
    · simp
    · simp; omega
    · simp at hi
      have hi' : i < zs.length := by omega
      have hsp : a.spot = none := by
        have h0 := h7 0 (by omega)
        rw [Addr.add, if_pos rfl] at h0
        rcases ha : a.spot with _ | n
        · rfl
        · unfold World.cell? at h0
          rw [ha] at h0
          split at h0
          · simp at h0
          · cases h0
      refine ⟨a.block, a.off, ?_, ?_⟩
      · rcases a with ⟨b, o, s⟩; simp at hsp; subst hsp; rfl
      · have hci := h7 i hi'
        have : a.add i = ⟨a.block, a.off + i, none⟩ := by
          rcases a with ⟨b, o, s⟩; simp at hsp; subst hsp; exact Addr.add_lit _ _ _
        rw [this] at hci
        rw [hci]
        simp [hi']
theorem open_Ints {t e : TypeId} {v : Value} {d : DataW H} {p : List MemPlace} (ht : P.underlying t = some (.slice e)) (he : P.underlying e = some (.int .i64)) (hc : P.cellsOf e = 1)
    (hv : v.cells.toList = [v]) (h : DataW.Trod enc P w base spare held t v d p) : ∃ l : List Int, Ints w v l ∧ (l = [] ∨ ∃ es sp, d = .slice es sp ∧ es.length = l.length) := by
  obtain ⟨fuel, hf⟩ := h
  rw [hv] at hf
  exact open_IntsF ht he hc hf

end
end Go.Att
/-! How arguments read: slices of slices. No function in sight. -/
namespace Go.Att
open Go.RowKit Go.ChangeShapes Go.WideShapes Go.Deep
section
variable {H : Type} {enc : TypeId × Value → H} {P : Program} {w : World} {base : Nat} {spare : Nat → Bool} {held : Bool}
end
end Go.Att
end
