/- Programs as text, in plain words: what is read weighs no more than it is long. No program in sight. What is read weighs little; two texts of the law, in plain words. No program in sight. What a program comes to, in plain words: by its parts, with so much fuel; more fuel makes no difference. No program in sight. Pairs of the call's own read as pairs. What both sorts of pairs want: shared. -/
import Derived.Test.YtgnomhbbbcfehaaGreatDoorSr7
import Derived.Test.YtgnomhbbbcfehaaGreatDoorPl
import Derived.Test.YtgnomhbbbcfehaaGreatDoorVc
import Derived.Test.YtgnomhbbbcfehaaGreatDoorQt
import Derived.Test.YtgnomhbbbcfehaaGreatDoorProg
import Derived.Shelf.SlSortCmp.NoneTotal
import Derived.BigQuiet
section
namespace Go.Att
theorem weiT_at (k : Nat) (n : Int) (s : List UInt8) (ks : List Tr) (p : Nat) : weiT (.mk k n s ks p) = 1 + (ks.map weiT).sum := by unfold weiT; rw [foldT_mk]
def Wt {α : Type} (L : List UInt8) (wt : α → Nat) (f : Nat → Ps α) : Prop := ∀ i x j, i ≤ L.length → f i = .ok x j → i + wt x ≤ j ∧ j ≤ L.length
section
variable {L : List UInt8}
theorem wt_must {s : List UInt8} {i j : Nat} {u : Unit} (hi : i ≤ L.length) (h : mustT L i s = .ok u j) : i + 1 ≤ j ∧ j ≤ L.length := by
  obtain ⟨h2, rfl⟩ := must_ok.mp h
  exact ⟨(isT_gt h2).1, nxtN_le L i hi⟩
theorem wt_name : Wt L (fun _ => 1) (nameT L) := fun i x j hi h => by
  unfold nameT at h
  split at h
  · cases h
  · split at h
    · cases h
    · rename_i h1 _
      cases h; exact ⟨(nxtN_gt L i (by omega)).1, nxtN_le L i hi⟩
theorem wt_more {α : Type} {one : Nat → Ps α} {wt : α → Nat} (h1 : Wt L wt one) : ∀ n acc i x j, i ≤ L.length → moreT L one n acc i = .ok x j → i + (x.map wt).sum ≤ j + (acc.map wt).sum ∧ j ≤ L.length
  | 0, _, i, x, j, _, h => by cases h
  | n + 1, acc, i, x, j, hi, h => by
    rw [moreT] at h
    split at h
    · obtain ⟨y, m, h2, h3⟩ := bind_ok.mp h
      obtain ⟨a1, a2⟩ := h1 _ _ _ (nxtN_le L i hi) h2
      obtain ⟨a3, a4⟩ := wt_more h1 n _ _ _ _ a2 h3
      have := nxtN_ge L i
      simp at a3
      exact ⟨by omega, a4⟩
    · obtain ⟨y, m, h2, h3⟩ := bind_ok.mp h
      cases h3
      have := wt_must hi h2
      exact ⟨by omega, this.2⟩
theorem wt_list {α : Type} {one : Nat → Ps α} {wt : α → Nat} (h1 : Wt L wt one) (k : Nat) : Wt L (fun x => (x.map wt).sum) (listT L k one) := fun i x j hi h => by
  unfold listT at h
  split at h
  · obtain ⟨y, m, h2, h3⟩ := bind_ok.mp h
    obtain ⟨_, rfl⟩ := enter_ok.mp h2
    have g1 := nxtN_ge L i; have g2 := nxtN_le L i hi
    split at h3
    · cases h3
      exact ⟨Nat.le_trans g1 (nxtN_ge L _), nxtN_le L _ g2⟩
    · obtain ⟨y, m, h4, h5⟩ := bind_ok.mp h3
      obtain ⟨a1, a2⟩ := h1 _ _ _ g2 h4
      obtain ⟨a3, a4⟩ := wt_more h1 _ _ _ _ _ a2 h5
      simp at a3
      exact ⟨by show i + (x.map wt).sum ≤ j; omega, a4⟩
  · cases h
theorem wt_lefts {next : Nat → Ps Tr} (h1 : Wt L weiT next) (a : List UInt8) (ka : Nat) (b : List UInt8) (kb : Nat) : ∀ n acc i x j, i ≤ L.length → leftsT L next a ka b kb n acc i = .ok x j → i + weiT x ≤ j + weiT acc ∧ j ≤ L.length
  | 0, _, i, x, j, _, h => by cases h
  | n + 1, acc, i, x, j, hi, h => by
    rw [leftsT] at h
    have g2 := nxtN_le L i hi
    split at h
    · rename_i ht
      have g1 := (isT_gt ht).1
      obtain ⟨y, m, h2, h3⟩ := bind_ok.mp h
      obtain ⟨a1, a2⟩ := h1 _ _ _ g2 h2
      obtain ⟨a3, a4⟩ := wt_lefts h1 a ka b kb n _ _ _ _ a2 h3
      rw [weiT_at] at a3; simp at a3
      exact ⟨by omega, a4⟩
    · split at h
      · rename_i ht
        have g1 := (isT_gt ht).1
        obtain ⟨y, m, h2, h3⟩ := bind_ok.mp h
        obtain ⟨a1, a2⟩ := h1 _ _ _ g2 h2
        obtain ⟨a3, a4⟩ := wt_lefts h1 a ka b kb n _ _ _ _ a2 h3
        rw [weiT_at] at a3; simp at a3
        exact ⟨by omega, a4⟩
      · cases h; exact ⟨by omega, hi⟩
theorem wt_join {next : Nat → Ps Tr} (h1 : Wt L weiT next) (a : List UInt8) (ka : Nat) (b : List UInt8) (kb : Nat) : Wt L weiT (joinT L next a ka b kb) := fun i x j hi h => by
  unfold joinT at h
  obtain ⟨y, m, h2, h3⟩ := bind_ok.mp h
  obtain ⟨a1, a2⟩ := h1 _ _ _ hi h2
  obtain ⟨a3, a4⟩ := wt_lefts h1 a ka b kb _ _ _ _ _ a2 h3
  exact ⟨by omega, a4⟩
theorem wt_sum {part : Nat → Ps Tr} (h1 : Wt L weiT part) : Wt L weiT (sumT L part) := wt_join (wt_join h1 _ _ _ _) _ _ _ _
theorem wt_part {k : Nat} {P E : Nat → Ps Tr} (h1 : Wt L weiT P) (h2 : Wt L weiT E) : Wt L weiT (partT L k P E) := fun i x j hi h => by
  have g2 := nxtN_le L i hi
  unfold partT at h
  split at h
  · rename_i hk
    have g1 := (nxtN_gt L i (by omega)).1
    split at h
    · cases h; exact ⟨by rw [weiT_at]; simp; omega, g2⟩
    · cases h
  · split at h
    · rename_i ht
      have g1 := (isT_gt ht).1
      obtain ⟨y, m, h3, h⟩ := bind_ok.mp h
      obtain ⟨_, rfl⟩ := enter_ok.mp h3
      obtain ⟨y, m, h4, h⟩ := bind_ok.mp h
      obtain ⟨a1, a2⟩ := h2 _ _ _ g2 h4
      obtain ⟨y, m, h5, h⟩ := bind_ok.mp h
      obtain ⟨a3, a4⟩ := wt_must a2 h5
      cases h
      exact ⟨by omega, a4⟩
    · split at h
      · rename_i ht
        have g1 := (isT_gt ht).1
        obtain ⟨y, m, h3, h⟩ := bind_ok.mp h
        obtain ⟨_, rfl⟩ := enter_ok.mp h3
        obtain ⟨y, m, h4, h⟩ := bind_ok.mp h
        obtain ⟨a1, a2⟩ := h1 _ _ _ g2 h4
        cases h
        exact ⟨by rw [weiT_at]; simp; omega, a2⟩
      · obtain ⟨y, m, h3, h⟩ := bind_ok.mp h
        obtain ⟨a1, a2⟩ := wt_name _ _ _ hi h3
        split at h
        · obtain ⟨y, m, h4, h⟩ := bind_ok.mp h
          obtain ⟨a3, a4⟩ := wt_list h2 _ _ _ _ a2 h4
          cases h
          exact ⟨by rw [weiT_at]; dsimp only at *; omega, a4⟩
        · cases h; exact ⟨by rw [weiT_at]; simpa using a1, a2⟩
theorem wt_expr {k : Nat} {S E S0 : Nat → Ps Tr} (h1 : Wt L weiT S) (h2 : Wt L weiT E) (h3 : Wt L weiT S0) : Wt L weiT (exprT L k S E S0) := fun i x j hi h => by
  have g1 := nxtN_ge L i; have g2 := nxtN_le L i hi
  unfold exprT at h
  split at h
  · obtain ⟨_, m, e1, h⟩ := bind_ok.mp h
    obtain ⟨_, rfl⟩ := enter_ok.mp e1
    obtain ⟨_, m, e1, h⟩ := bind_ok.mp h
    obtain ⟨a1, a2⟩ := wt_name _ _ _ g2 e1
    obtain ⟨_, m, e1, h⟩ := bind_ok.mp h
    obtain ⟨a3, a4⟩ := wt_must a2 e1
    obtain ⟨_, m, e1, h⟩ := bind_ok.mp h
    obtain ⟨a5, a6⟩ := h2 _ _ _ a4 e1
    obtain ⟨_, m, e1, h⟩ := bind_ok.mp h
    obtain ⟨a7, a8⟩ := wt_must a6 e1
    obtain ⟨_, m, e1, h⟩ := bind_ok.mp h
    obtain ⟨a9, a10⟩ := h2 _ _ _ a8 e1
    cases h
    exact ⟨by rw [weiT_at]; simp at *; omega, a10⟩
  · split at h
    · obtain ⟨_, m, e1, h⟩ := bind_ok.mp h
      obtain ⟨_, rfl⟩ := enter_ok.mp e1
      obtain ⟨_, m, e1, h⟩ := bind_ok.mp h
      obtain ⟨a1, a2⟩ := h1 _ _ _ g2 e1
      obtain ⟨_, m, e1, h⟩ := bind_ok.mp h
      obtain ⟨a3, a4⟩ := wt_must a2 e1
      obtain ⟨_, m, e1, h⟩ := bind_ok.mp h
      obtain ⟨a5, a6⟩ := h1 _ _ _ a4 e1
      obtain ⟨_, m, e1, h⟩ := bind_ok.mp h
      obtain ⟨a7, a8⟩ := wt_must a6 e1
      obtain ⟨_, m, e1, h⟩ := bind_ok.mp h
      obtain ⟨a9, a10⟩ := h2 _ _ _ a8 e1
      cases h
      exact ⟨by rw [weiT_at]; simp; omega, a10⟩
    · split at h
      · obtain ⟨_, m, e1, h⟩ := bind_ok.mp h
        obtain ⟨_, rfl⟩ := enter_ok.mp e1
        obtain ⟨_, m, e1, h⟩ := bind_ok.mp h
        obtain ⟨a1, a2⟩ := h2 _ _ _ g2 e1
        obtain ⟨_, m, e1, h⟩ := bind_ok.mp h
        obtain ⟨a3, a4⟩ := wt_must a2 e1
        obtain ⟨_, m, e1, h⟩ := bind_ok.mp h
        obtain ⟨a5, a6⟩ := h2 _ _ _ a4 e1
        obtain ⟨_, m, e1, h⟩ := bind_ok.mp h
        obtain ⟨a7, a8⟩ := wt_must a6 e1
        obtain ⟨_, m, e1, h⟩ := bind_ok.mp h
        obtain ⟨a9, a10⟩ := h2 _ _ _ a8 e1
        cases h
        exact ⟨by rw [weiT_at]; simp; omega, a10⟩
      · obtain ⟨_, m, e1, h⟩ := bind_ok.mp h
        obtain ⟨a1, a2⟩ := h3 _ _ _ hi e1
        split at h
        · rename_i ht
          obtain ⟨_, m', e1, h⟩ := bind_ok.mp h
          obtain ⟨a3, a4⟩ := h3 _ _ _ (nxtN_le L _ a2) e1
          have := (isT_gt ht).1
          cases h
          exact ⟨by rw [weiT_at]; simp; omega, a4⟩
        · cases h; exact ⟨a1, a2⟩
theorem wt_read : ∀ k, Wt L weiT (readT L k).1 ∧ Wt L weiT (readT L k).2
  | 0 => ⟨fun _ _ _ _ h => (by cases h), fun _ _ _ _ h => (by cases h)⟩
  | k + 1 => by
    obtain ⟨h1, h2⟩ := wt_read k
    have hp : Wt L weiT (readT L (k + 1)).1 := wt_part h1 h2
    exact ⟨hp, wt_expr (wt_sum h1) h2 (wt_sum hp)⟩
def weiF (f : Fn) : Nat := 1 + f.names.length + weiT f.body
theorem sum_ones {α : Type} (l : List α) : (l.map fun _ => 1).sum = l.length := by induction l with
  | nil => rfl
  | cons x l ih => rw [List.map_cons, List.sum_cons, ih, List.length_cons]; omega
theorem wt_fun : Wt L weiF (funT L) := fun i x j hi h => by
  unfold funT at h
  obtain ⟨_, m, e1, h⟩ := bind_ok.mp h
  obtain ⟨a1, a2⟩ := wt_must hi e1
  obtain ⟨_, m, e1, h⟩ := bind_ok.mp h
  obtain ⟨a3, a4⟩ := wt_name _ _ _ a2 e1
  obtain ⟨ns, m, e1, h⟩ := bind_ok.mp h
  obtain ⟨a5, a6⟩ := wt_list wt_name _ _ _ _ a4 e1
  dsimp only at a3 a5
  rw [sum_ones] at a5
  obtain ⟨_, m, e1, h⟩ := bind_ok.mp h
  obtain ⟨a7, a8⟩ := wt_must a6 e1
  obtain ⟨tb, m, e1, h⟩ := bind_ok.mp h
  obtain ⟨a9, a10⟩ := (wt_read 65).2 _ _ _ a8 e1
  cases h
  exact ⟨by show i + (1 + ns.length + weiT tb) ≤ _; omega, a10⟩
theorem wt_funs : ∀ n acc i fs j, i ≤ L.length → funsT L n acc i = .ok fs j → i + (fs.map weiF).sum ≤ j + (acc.map weiF).sum ∧ j ≤ L.length
  | 0, _, _, _, _, _, h => by cases h
  | n + 1, acc, i, fs, j, hi, h => by
    rw [funsT] at h
    split at h
    · cases h; exact ⟨by omega, hi⟩
    · obtain ⟨y, m, h2, h3⟩ := bind_ok.mp h
      obtain ⟨a1, a2⟩ := wt_fun _ _ _ hi h2
      obtain ⟨a3, a4⟩ := wt_funs n _ _ _ _ a2 h3
      simp at a3
      exact ⟨by omega, a4⟩
end
end Go.Att
end
section
namespace Go.Att
theorem parse_ok {l : List UInt8} {fs : List Fn} {j : Nat} (h : parseT l = .ok fs j) : (∀ f ∈ fs, FnOk f) ∧ (fs.map weiF).sum ≤ 4000 := by
  unfold parseT at h
  split at h
  · cases h
  · obtain ⟨fs', m, h1, h2⟩ := bind_ok.mp h
    split at h2
    · cases h2
    · cases h2
      have h3 := wt_funs _ _ _ _ _ (Nat.zero_le _) h1
      exact ⟨funs_fit _ _ _ _ _ (by simp) h1, by simp at h3; omega⟩
end Go.Att
end
section
namespace Go.Att
inductive Ev (α : Type) where
  | ok (v : α) (left : Nat)
  | stop (e : Nat)
def Ev.bind {α β : Type} (x : Ev α) (f : α → Nat → Ev β) : Ev β := match x with
  | .ok v l => f v l
  | .stop e => .stop e
abbrev Env := List UInt8 → Option Int
def Env.put (m : Env) (s : List UInt8) (v : Int) : Env := fun j => if j = s then some v else m j
def Env.get (m : Env) (s : List UInt8) : Int := (m s).getD 0
def bindE (ns : List (List UInt8)) (vs : List Int) : Env := (ns.zip vs).foldl (fun m x => m.put x.1 x.2) fun _ => none
def findF (fs : List Fn) (s : List UInt8) : Option Fn := fs.find? fun f => f.name == s
def kid (ks : List Tr) (i : Nat) : Tr := ks.getD i (.mk 0 0 [] [] 0)
def evL (ev : Tr → Nat → Ev Int) : List Tr → Nat → Ev (List Int)
  | [], l => .ok [] l
  | t :: r, l => (ev t l).bind fun v l => (evL ev r l).bind fun vs l => .ok (v :: vs) l
def compE (p : Int) (k : Nat) (vs : List Int) : Option Int :=
  let a := vs.getD 0 0
  let b := vs.getD 1 0
  if k = 2 then some (fadd p a b)
  else if k = 3 then some (fsub p a b)
  else if k = 4 then some (fmul p a b)
  else if k = 5 then if b = 0 then none else some (fdiv p a b)
  else if k = 6 then some (if a = b then 1 else 0)
  else some (fsub p 0 a)
def evT (p : Int) (fs : List Fn) : Nat → Tr → Env → Nat → Ev Int
  | 0, _, _, _ => .stop 8
  | n + 1, .mk k num s ks _, m, left =>
    if left = 0 then .stop 8
    else if k = 0 then .ok (num % p) (left - 1)
    else if k = 1 then .ok (m.get s) (left - 1)
    else if k = 8 then (evT p fs n (kid ks 0) m (left - 1)).bind fun a l => evT p fs n (kid ks 1) (m.put s a) l
    else if k = 10 then (evT p fs n (kid ks 0) m (left - 1)).bind fun a l => if a = 0 then evT p fs n (kid ks 2) m l else evT p fs n (kid ks 1) m l
    else if k = 9 then (evT p fs n (kid ks 0) m (left - 1)).bind fun a l => (evT p fs n (kid ks 1) m l).bind fun b l => if a = b then evT p fs n (kid ks 2) m l else .stop 7
    else (evL (fun t l => evT p fs n t m l) ks (left - 1)).bind fun vs l =>
      if k = 11 then match findF fs s with
        | none => .stop 0
        | some f => evT p fs n f.body (bindE (f.names.map (·.1)) vs) l
      else match compE p k vs with
        | none => .stop 7
        | some v => .ok v l
def Fuel {α : Type} (c : Nat → Nat → Ev α) (n : Nat) : Prop := ∀ left v l', left ≤ n → c n left = .ok v l' → l' ≤ left ∧ ∀ n2 left2, left2 ≤ n2 → (left - l' ≤ left2 → c n2 left2 = .ok v (left2 - (left - l'))) ∧ (left2 < left - l' → c n2 left2 = .stop 8)
section
variable {α β : Type} {n : Nat}
theorem Fuel.pure (v : α) : Fuel (fun _ l => .ok v l) n := fun left u l' _ h => by
  cases h
  exact ⟨Nat.le_refl _, fun n2 left2 _ => ⟨fun _ => by rw [Nat.sub_self, Nat.sub_zero], fun h => by omega⟩⟩
theorem Fuel.stop (e : Nat) : Fuel (fun _ _ => (.stop e : Ev α)) n := fun _ _ _ _ h => by cases h
theorem Fuel.bind {c : Nat → Nat → Ev α} {d : α → Nat → Nat → Ev β} (hc : Fuel c n) (hd : ∀ v, Fuel (d v) n) : Fuel (fun n l => (c n l).bind fun v l => d v n l) n := fun left u l' hl h => by
  dsimp only at h
  cases e : c n left with
  | stop x => rw [e] at h; cases h
  | ok v l1 =>
    rw [e] at h
    obtain ⟨h1, h2⟩ := hc left v l1 hl e
    obtain ⟨h3, h4⟩ := hd v l1 u l' (by omega) h
    refine ⟨by omega, fun n2 left2 hn2 => ?_⟩
    by_cases hle : left - l1 ≤ left2
    · have e1 := (h2 n2 left2 hn2).1 hle
      obtain ⟨h5, h6⟩ := h4 n2 (left2 - (left - l1)) (by omega)
      refine ⟨fun h7 => ?_, fun h7 => ?_⟩
      · dsimp only; rw [e1]; show d v n2 _ = _
        rw [h5 (by omega)]
        congr 1; omega
      · dsimp only; rw [e1]; show d v n2 _ = _
        exact h6 (by omega)
    · have e1 := (h2 n2 left2 hn2).2 (by omega)
      exact ⟨fun h7 => by omega, fun h7 => by dsimp only; rw [e1]; rfl⟩
theorem Fuel.ite {b : Prop} [Decidable b] {c d : Nat → Nat → Ev α} (hc : Fuel c n) (hd : Fuel d n) : Fuel (fun n l => if b then c n l else d n l) n := by
  by_cases h : b
  · simpa only [h, if_true] using hc
  · simpa only [h, if_false] using hd
theorem Fuel.evL {c : Tr → Nat → Nat → Ev Int} (hc : ∀ t, Fuel (c t) n) : ∀ ks : List Tr, Fuel (fun n l => Att.evL (fun t l => c t n l) ks l) n
  | [] => Fuel.pure _
  | t :: r => (hc t).bind fun v => (Fuel.evL hc r).bind fun vs => Fuel.pure (v :: vs)
end
theorem evT_succ (p : Int) (fs : List Fn) (n k : Nat) (num : Int) (s : List UInt8) (ks : List Tr) (q : Nat) (m : Env) (left : Nat) : evT p fs (n + 1) (.mk k num s ks q) m left =
    if left = 0 then .stop 8
    else if k = 0 then .ok (num % p) (left - 1)
    else if k = 1 then .ok (m.get s) (left - 1)
    else if k = 8 then (evT p fs n (kid ks 0) m (left - 1)).bind fun a l => evT p fs n (kid ks 1) (m.put s a) l
    else if k = 10 then (evT p fs n (kid ks 0) m (left - 1)).bind fun a l => if a = 0 then evT p fs n (kid ks 2) m l else evT p fs n (kid ks 1) m l
    else if k = 9 then (evT p fs n (kid ks 0) m (left - 1)).bind fun a l => (evT p fs n (kid ks 1) m l).bind fun b l => if a = b then evT p fs n (kid ks 2) m l else .stop 7
    else (evL (fun t l => evT p fs n t m l) ks (left - 1)).bind fun vs l =>
      if k = 11 then match findF fs s with
        | none => .stop 0
        | some f => evT p fs n f.body (bindE (f.names.map (·.1)) vs) l
      else match compE p k vs with
        | none => .stop 7
        | some v => .ok v l := by rw [evT]
theorem Fuel.tick {α : Type} {n : Nat} {c d : Nat → Nat → Ev α} (hc : Fuel c n) (h0 : ∀ l, d 0 l = .stop 8) (h1 : ∀ k l, d (k + 1) l = if l = 0 then .stop 8 else c k (l - 1)) : ∀ left v l', left ≤ n + 1 → d (n + 1) left = .ok v l' → l' < left ∧ ∀ n2 left2, left2 ≤ n2 → (left - l' ≤ left2 → d n2 left2 = .ok v (left2 - (left - l'))) ∧ (left2 < left - l' → d n2 left2 = .stop 8) := fun left v l' hl h => by
  rw [h1] at h
  split at h
  · cases h
  · rename_i hne
    obtain ⟨h2, h3⟩ := hc (left - 1) v l' (by omega) h
    refine ⟨by omega, fun n2 left2 hn2 => ?_⟩
    cases n2 with
    | zero => exact ⟨fun h => by omega, fun _ => h0 _⟩
    | succ k =>
      by_cases hz : left2 = 0
      · exact ⟨fun h => by omega, fun _ => by rw [h1, if_pos hz]⟩
      · obtain ⟨h4, h5⟩ := h3 k (left2 - 1) (by omega)
        refine ⟨fun h6 => ?_, fun h6 => ?_⟩
        · rw [h1, if_neg hz, h4 (by omega)]
          congr 1; omega
        · rw [h1, if_neg hz]; exact h5 (by omega)
theorem evT_fuel (p : Int) (fs : List Fn) : ∀ n (t : Tr) (m : Env) (left : Nat) (v : Int) (l' : Nat), left ≤ n → evT p fs n t m left = .ok v l' → l' < left ∧ ∀ n2 left2, left2 ≤ n2 → (left - l' ≤ left2 → evT p fs n2 t m left2 = .ok v (left2 - (left - l'))) ∧ (left2 < left - l' → evT p fs n2 t m left2 = .stop 8)
  | 0, t, m, left, v, l', _, h => by rw [evT] at h; cases h
  | n + 1, .mk k num s ks q, m, left, v, l', hl, h => by
    have ih : ∀ (t : Tr) (m : Env), Fuel (fun n l => evT p fs n t m l) n := fun t m left v l' hl h => by
      obtain ⟨h1, h2⟩ := evT_fuel p fs n t m left v l' hl h
      exact ⟨Nat.le_of_lt h1, h2⟩
    have hbody : Fuel (fun n l => if k = 0 then .ok (num % p) l
      else if k = 1 then .ok (m.get s) l
      else if k = 8 then (evT p fs n (kid ks 0) m l).bind fun a l => evT p fs n (kid ks 1) (m.put s a) l
      else if k = 10 then (evT p fs n (kid ks 0) m l).bind fun a l => if a = 0 then evT p fs n (kid ks 2) m l else evT p fs n (kid ks 1) m l
      else if k = 9 then (evT p fs n (kid ks 0) m l).bind fun a l => (evT p fs n (kid ks 1) m l).bind fun b l => if a = b then evT p fs n (kid ks 2) m l else .stop 7
      else (evL (fun t l => evT p fs n t m l) ks l).bind fun vs l =>
        if k = 11 then match findF fs s with
          | none => .stop 0
          | some f => evT p fs n f.body (bindE (f.names.map (·.1)) vs) l
        else match compE p k vs with
          | none => .stop 7
          | some v => .ok v l) n := by
      refine Fuel.ite (Fuel.pure _) (Fuel.ite (Fuel.pure _) (Fuel.ite ((ih _ _).bind fun a => ih _ _) (Fuel.ite ((ih _ _).bind fun a => Fuel.ite (ih _ _) (ih _ _)) (Fuel.ite ((ih _ _).bind fun a => (ih _ _).bind fun b => Fuel.ite (ih _ _) (Fuel.stop _)) ((Fuel.evL (fun t => ih t m) ks).bind fun vs => Fuel.ite ?_ ?_)))))
      · cases findF fs s with
        | none => exact Fuel.stop _
        | some f => exact ih _ _
      · cases compE p k vs with
        | none => exact Fuel.stop _
        | some v => exact Fuel.pure _
    exact Fuel.tick (d := fun n l => evT p fs n (.mk k num s ks q) m l) hbody (fun l => by show evT _ _ _ _ _ _ = _; rw [evT]) (fun k' l => by show evT _ _ _ _ _ _ = _; rw [evT_succ]) left v l' hl h
end Go.Att
end
section
namespace Go.Att
open Go.RowKit
theorem Prs.of_own {w : World} {B e n : Nat} {v : Value} {l : List (Int × Int)} (h : w.ownsRow B e 2 v n (flatP l)) : Prs w v l := by
  have hl : n = l.length := by have := h.1; rw [flatP_length] at this; omega
  subst hl
  exact Sl.of_own h (by omega)
end Go.Att
end
section
namespace Go.Att
open Go.RowKit Go.Sort
def cmpI (a b : Int) : Int := if a < b then -1 else if b < a then 1 else 0
def encP (x : Int × Int) : List Value := [.int .i64 x.1, .int .i64 x.2]
theorem flatK_encP (l : List (Int × Int)) : (flatK encP 2 l.toArray).toList = flatP l := by
  apply List.ext_getElem?
  intro t
  by_cases ht : t < l.length * 2
  · have h1 : t < (flatK encP 2 l.toArray).size := by simp [ht]
    have h2 := get_flatK encP 2 l.toArray t (by simpa using ht)
    rw [getElem!_pos _ t h1] at h2
    rw [Array.getElem?_toList, Array.getElem?_eq_getElem h1, h2]
    have hk : t / 2 < l.length := by omega
    have hg := flatP_get l (t / 2) hk
    have e0 : l.toArray[t / 2]! = l[t / 2] := by simp [hk]
    rw [e0]
    have h3 : t % 2 = 0 ∨ t % 2 = 1 := by omega
    rcases h3 with h3 | h3
    · have e2 : t / 2 * 2 = t := by omega
      rw [e2] at hg
      rw [h3, hg.1]; simp [encP]
    · have e2 : t / 2 * 2 + 1 = t := by omega
      rw [e2] at hg
      rw [h3, hg.2]; simp [encP]
  · rw [List.getElem?_eq_none (by simp; omega), List.getElem?_eq_none (by rw [flatP_length]; omega)]
theorem sortWorld_grown (w : World) (blk off m : Nat) (dk : Array (Int × Int)) (os : Array Obj) : w.grownBy (Go.Proofs.sortWorldK encP 2 w blk off m dk os) (some blk) := by
  refine ⟨rfl, rfl, rfl, ?_, fun k hk hne => ?_⟩
  · unfold Go.Proofs.sortWorldK; rw [size_grow]; simp [putRowK, putRow, mapBlock, Sort.ahead]
  · unfold Go.Proofs.sortWorldK
    rw [heap_grow_old _ _ (by simp [putRowK, putRow, mapBlock, Sort.ahead]; exact hk)]
    have : blk ≠ k := fun e => hne (by rw [e])
    simp [putRowK, putRow, mapBlock, Sort.ahead, Array.getElem?_modify, this]
theorem holds_own {w : World} {B e n : Nat} {g cap : Nat} {l : List (Int × Int)} (h : w.ownsRow B e 2 (.slice (some ⟨g, 0, none⟩) n cap) n (flatP l)) : HoldsK encP 2 w g 0 l.toArray := by
  have hp := Prs.of_own h
  have hn : n = l.length := by have := h.1; rw [flatP_length] at this; omega
  subst hn
  intro j hj
  have hj' : j < l.length * 2 := by simpa using hj
  have e1 : (flatK encP 2 l.toArray)[j]! = (flatP l)[j]'(by rw [flatP_length]; exact hj') := by
    rw [getElem!_pos _ j hj]
    have := flatK_encP l
    simp only [← this]
    simp
  refine ⟨?_, ?_⟩
  · obtain ⟨ao, cap', he, h2, h3, h4, h5⟩ := hp
    obtain ⟨b, off, e2, hc⟩ := h5 j (by rw [flatP_length]; exact hj')
    have e3 := he
    rw [e2] at e3
    simp only [Value.slice.injEq, Option.some.injEq, Addr.mk.injEq] at e3
    obtain ⟨⟨rfl, rfl, -⟩, -, -⟩ := e3
    rw [hc, e1]; rfl
  · obtain ⟨h1, h2⟩ := h
    rcases h2 with ⟨h2, _⟩ | ⟨g', cap', cur, h2, hb, hg, hr⟩
    · cases h2
    · simp only [Value.slice.injEq, Option.some.injEq, Addr.mk.injEq] at h2
      obtain ⟨⟨rfl, -, -⟩, -, -⟩ := h2
      simp [World.frozen?, hg]
theorem prs_of_holds {w : World} {g cap : Nat} {l : List (Int × Int)} (hc : l.length ≤ cap) (hm : cap ≤ maxLen) (h : HoldsK encP 2 w g 0 l.toArray) : Prs w (.slice (some ⟨g, 0, none⟩) l.length cap) l := by
  refine ⟨some ⟨g, 0, none⟩, cap, rfl, flatP_length l, hc, hm, fun i hi => ⟨g, 0, rfl, ?_⟩⟩
  have hi' : i < l.length * 2 := by rw [flatP_length] at hi; exact hi
  have hs : i < (flatK encP 2 l.toArray).size := by simp [hi']
  rw [(h i hs).1, getElem!_pos _ i hs]
  have := flatK_encP l
  simp only [← this]
  simp
end Go.Att
namespace Go.Proofs.YtgnomhbbbcfehaaGreatDoor
open Go.RowKit Go.Att Go.Shelf Go.Sort
theorem isnan_any (x : Int) (w : World) : Calls Tryz.prog 121 #[.int .i64 x] w fun e w' => e = .returned (.bool false) ∧ w = w' := by
  have h : (x != x) = false := by simp
  go_enter Tryz.func121, Tryz.ntmps121
  go_wp2_with fail
  go_ret
  exact ⟨rfl, rfl⟩
theorem cmpc_any (x y : Int) (w : World) : Calls Tryz.prog 84 #[.int .i64 x, .int .i64 y] w fun e w' => e = .returned (.int .i64 (cmpI x y)) ∧ w = w' := by
  obtain ⟨r, hr⟩ : ∃ r, cmpI x y = r := ⟨_, rfl⟩
  rw [hr]
  have HR := Lib.hid hr
  clear hr
  by_cases h1 : x < y
  · have H := Lib.hid (show (-1 : Int) = r by rw [← HR.out]; unfold cmpI; rw [if_pos h1])
    clear HR
    go_enter Tryz.func84, Tryz.ntmps84
    go_wp2_with (go_at_call 121; refine (isnan_any _ _).mono ?_; rintro e w' ⟨rfl, rfl⟩)
    go_ret
    exact ⟨ret_int H.out, rfl⟩
  · by_cases h2 : y < x
    · have H := Lib.hid (show (1 : Int) = r by rw [← HR.out]; unfold cmpI; rw [if_neg h1, if_pos h2])
      clear HR
      go_enter Tryz.func84, Tryz.ntmps84
      go_wp2_with (go_at_call 121; refine (isnan_any _ _).mono ?_; rintro e w' ⟨rfl, rfl⟩)
      go_ret
      exact ⟨ret_int H.out, rfl⟩
    · have H := Lib.hid (show (0 : Int) = r by rw [← HR.out]; unfold cmpI; rw [if_neg h1, if_neg h2])
      clear HR
      go_enter Tryz.func84, Tryz.ntmps84
      go_wp2_with (go_at_call 121; refine (isnan_any _ _).mono ?_; rintro e w' ⟨rfl, rfl⟩)
      go_ret
      exact ⟨ret_int H.out, rfl⟩
end Go.Proofs.YtgnomhbbbcfehaaGreatDoor
end
