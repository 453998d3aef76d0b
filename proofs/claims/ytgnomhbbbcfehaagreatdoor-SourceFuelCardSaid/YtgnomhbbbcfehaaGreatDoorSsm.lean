/- A list of functions grows by what is read next, in a drawn region: its stages. Printed by wip/mkfs.py. -/
import Derived.Test.YtgnomhbbbcfehaaGreatDoorSsl
import Derived.Test.YtgnomhbbbcfehaaGreatDoorZx7
namespace Go.Proofs.YtgnomhbbbcfehaaGreatDoor
open Go.RowKit Go.Att Go.Shelf
structure FnsIn (T E : TypeId) (lo : Nat) (w : World) (kv : Value) (vs : List Value) (ks : List Att.Fn) : Prop where
  own : w.ownsRow lo E 1 kv ks.length vs
  each : Each (fun v t => ∃ l h, lo ≤ l ∧ h ≤ w.heap.size ∧ fnAt t l h w v ∧ ∀ A, kv.ownBlock = some A → A < l ∨ h ≤ A) vs ks
section
variable {w w' : World} {T E : TypeId} {lo : Nat}
theorem FnsIn.nil (w : World) : FnsIn T E lo w (.slice none 0 0) [] [] := ⟨World.ownsRow_nil w lo E 1, .nil⟩
variable {kv kv' : Value} {vs : List Value} {ks : List Att.Fn}
theorem FnsIn.kept (h : FnsIn T E lo w kv vs ks) {row : Option Nat} (hg : w.grownBy w' row) (hr : ∀ r, row = some r → r < lo) : FnsIn T E lo w' kv vs ks :=
  ⟨own_kept h.own hg (fun A hA e => by have := (own_blk h.own hA).1; have := hr A e.symm; omega), h.each.imp fun x t _ ⟨l, g, a1, a2, a3, a4⟩ => ⟨l, g, a1, Nat.le_trans a2 hg.size, a3.kept hg (fun r e => by have := hr r e; omega), a4⟩⟩
end
def FnsEach (_T _E : TypeId) (lo : Nat) (w : World) (kv : Value) (vs : List Value) (ts : List Att.Fn) : Prop := Each (fun v t => ∃ l h, lo ≤ l ∧ h ≤ w.heap.size ∧ fnAt t l h w v ∧ ∀ A, kv.ownBlock = some A → A < l ∨ h ≤ A) vs ts
structure FnC where
  w0 : World
  b : Nat
  q : Nat
  lo : Nat
  R : Nat → World → Prop
  X : World → Prop
  cs : Value → List Value
  T : TypeId
  E : TypeId
  kv : Value
  vs0 : List Value
  ks : List Att.Fn
  vp : List Value
  tp : List Att.Fn
  r : Ps Att.Fn
  i : Nat
  sc : Nat
  sb : Nat
  sa : Nat
structure FnAOk (c : FnC) : Prop where
  xk : ∀ W W' row, c.X W → W.grownBy W' row → (∀ A, row = some A → A = c.b ∨ A = c.q ∨ c.lo ≤ A) → c.X W'
  rk : ∀ j W W' row, c.R j W → W.grownBy W' row → (∀ A, row = some A → A ≠ c.b) → c.R j W'
  bq : c.b ≠ c.q
  blo : c.b < c.lo
  qlo : c.q < c.lo
  wq : c.w0.heap.size ≤ c.q
  small : c.ks.length + c.vp.length + 1 ≤ 65536
def FnSta (c : FnC) : Nat → (Nat → Value) → World → Prop
  | 0, _, W => c.R c.i W ∧ BlkOf W c.q (c.cs c.kv) c.T ∧ FnsIn c.T c.E c.lo W c.kv c.vs0 c.ks ∧ FnsEach c.T c.E c.lo W c.kv c.vp c.tp
  | 1, vs, W => ∃ y j, c.r = .ok y j ∧ c.R j W ∧ BlkOf W c.q (c.cs c.kv) c.T ∧ FnsIn c.T c.E c.lo W c.kv c.vs0 c.ks ∧ FnsEach c.T c.E c.lo W c.kv (c.vp ++ [vs c.sc]) (c.tp ++ [y])
  | 2, vs, W => ∃ y j, c.r = .ok y j ∧ c.R j W ∧ BlkOf W c.q (c.cs c.kv) c.T ∧ FnsIn c.T c.E c.lo W c.kv c.vs0 c.ks ∧ FnsEach c.T c.E c.lo W c.kv (c.vp ++ [vs c.sc]) (c.tp ++ [y]) ∧ ∃ z, vs c.sb = .slice (some ⟨z, 0, none⟩) (c.vp ++ [vs c.sc]).length (c.vp ++ [vs c.sc]).length ∧ BlkOf W z (c.vp ++ [vs c.sc]) c.E
  | 3, vs, W => ∃ y j us, c.r = .ok y j ∧ c.R j W ∧ BlkOf W c.q (c.cs c.kv) c.T ∧ FnsIn c.T c.E c.lo W (vs c.sa) us (c.ks ++ (c.tp ++ [y]))
  | 4, _, W => ∃ y j us kv', c.r = .ok y j ∧ c.R j W ∧ BlkOf W c.q (c.cs kv') c.T ∧ FnsIn c.T c.E c.lo W kv' us (c.ks ++ (c.tp ++ [y]))
  | _, _, _ => False
structure FnI (c : FnC) (iL iC iB iA iS : Nat) (s : Nat → Bool) (vs : Nat → Value) (W : World) : Prop where
  al : s iA = true → s iL = true
  bc : s iB = true → s iC = true
  ab : s iA = true → s iB = true
  sa : s iS = true → s iA = true
  g : c.w0.grownBy W (some c.b)
  lw : c.lo ≤ W.heap.size
  x : c.X W
  st : FnSta c (stg iC iB iA iS s) vs W
section
variable {c : FnC} {iL iC iB iA iS : Nat} {s s' : Nat → Bool} {vs vs' : Nat → Value} {W W' : World}
theorem FnsEach.kept {T E : TypeId} {lo : Nat} {kv : Value} {vs : List Value} {ts : List Att.Fn} (h : FnsEach T E lo W kv vs ts) {row : Option Nat} (hg : W.grownBy W' row) (hr : ∀ r, row = some r → r < lo) : FnsEach T E lo W' kv vs ts :=
  h.imp fun x t _ ⟨l, g, a1, a2, a3, a4⟩ => ⟨l, g, a1, Nat.le_trans a2 hg.size, a3.kept hg (fun r e => by have := hr r e; omega), a4⟩
theorem FnSta.free (ok : FnAOk c) (hx : Ext W W') (h1 : vs' c.sc = vs c.sc) (h2 : vs' c.sb = vs c.sb) (h3 : vs' c.sa = vs c.sa) : ∀ {k : Nat}, FnSta c k vs W → FnSta c k vs' W'
  | 0, ⟨a1, a2, a3, a4⟩ => ⟨ok.rk _ _ _ none a1 (hx.grownBy _) (by simp), a2.ext hx, a3.kept (hx.grownBy none) (by simp), a4.kept (hx.grownBy none) (by simp)⟩
  | 1, ⟨y, j, a0, a1, a2, a3, a4⟩ => ⟨y, j, a0, ok.rk _ _ _ none a1 (hx.grownBy _) (by simp), a2.ext hx, a3.kept (hx.grownBy none) (by simp), by rw [h1]; exact a4.kept (hx.grownBy none) (by simp)⟩
  | 2, ⟨y, j, a0, a1, a2, a3, a4, z, a5, a6⟩ => ⟨y, j, a0, ok.rk _ _ _ none a1 (hx.grownBy _) (by simp), a2.ext hx, a3.kept (hx.grownBy none) (by simp), by rw [h1]; exact a4.kept (hx.grownBy none) (by simp), z, by rw [h1, h2]; exact a5, by rw [h1]; exact a6.ext hx⟩
  | 3, ⟨y, j, us, a0, a1, a2, a3⟩ => ⟨y, j, us, a0, ok.rk _ _ _ none a1 (hx.grownBy _) (by simp), a2.ext hx, by rw [h3]; exact a3.kept (hx.grownBy none) (by simp)⟩
  | 4, ⟨y, j, us, kv', a0, a1, a2, a3⟩ => ⟨y, j, us, kv', a0, ok.rk _ _ _ none a1 (hx.grownBy _) (by simp), a2.ext hx, a3.kept (hx.grownBy none) (by simp)⟩
  | _ + 5, h => h.elim
theorem FnI.free (ok : FnAOk c) (h : FnI c iL iC iB iA iS s vs W) (hg : W.grownBy W' none) (e1 : s' iL = s iL) (e2 : s' iC = s iC) (e3 : s' iB = s iB) (e4 : s' iA = s iA) (e5 : s' iS = s iS) (h1 : vs' c.sc = vs c.sc) (h2 : vs' c.sb = vs c.sb) (h3 : vs' c.sa = vs c.sa) : FnI c iL iC iB iA iS s' vs' W' := by
  refine ⟨by rw [e4, e1]; exact h.al, by rw [e3, e2]; exact h.bc, by rw [e4, e3]; exact h.ab, by rw [e5, e4]; exact h.sa, grown_ext h.g (ext_of hg), Nat.le_trans h.lw hg.size, ok.xk _ _ _ h.x hg (by simp), ?_⟩
  have : stg iC iB iA iS s' = stg iC iB iA iS s := by unfold stg; rw [e2, e3, e4, e5]
  rw [this]
  exact h.st.free ok (ext_of hg) h1 h2 h3
theorem fstg0 (h : FnI c iL iC iB iA iS s vs W) (hc : s iC = false) : stg iC iB iA iS s = 0 := by
  have e1 : s iB = false := by cases e : s iB with | false => rfl | true => rw [h.bc e] at hc; cases hc
  have e2 : s iA = false := by cases e : s iA with | false => rfl | true => rw [h.ab e] at e1; cases e1
  have e3 : s iS = false := by cases e : s iS with | false => rfl | true => rw [h.sa e] at e2; cases e2
  unfold stg; simp [hc, e1, e2, e3]
theorem fstg1 (h : FnI c iL iC iB iA iS s vs W) (hc : s iC = true) (hb : s iB = false) : stg iC iB iA iS s = 1 := by
  have e2 : s iA = false := by cases e : s iA with | false => rfl | true => rw [h.ab e] at hb; cases hb
  have e3 : s iS = false := by cases e : s iS with | false => rfl | true => rw [h.sa e] at e2; cases e2
  unfold stg; simp [hc, hb, e2, e3]
theorem fstg2 (h : FnI c iL iC iB iA iS s vs W) (hb : s iB = true) (ha : s iA = false) : stg iC iB iA iS s = 2 := by
  have e3 : s iS = false := by cases e : s iS with | false => rfl | true => rw [h.sa e] at ha; cases ha
  unfold stg; simp [hb, ha, e3]
theorem FnI.node (h : FnI c iL iC iB iA iS s vs W) (hl : s iL = false) : BlkOf W c.q (c.cs c.kv) c.T := by
  have ha : s iA = false := by cases e : s iA with | false => rfl | true => rw [h.al e] at hl; cases hl
  have hst := h.st
  cases hb : s iB with
  | true => rw [fstg2 h hb ha] at hst; obtain ⟨y, j, -, -, h1, -⟩ := hst; exact h1
  | false =>
    cases hc : s iC with
    | true => rw [fstg1 h hc hb] at hst; obtain ⟨y, j, -, -, h1, -⟩ := hst; exact h1
    | false => rw [fstg0 h hc] at hst; exact hst.2.1
theorem FnI.place (h : FnI c iL iC iB iA iS s vs W) (hc : s iC = false) : c.R c.i W := by
  have hst := h.st
  rw [fstg0 h hc] at hst
  exact hst.1
theorem FnI.loaded (ok : FnAOk c) (h : FnI c iL iC iB iA iS s vs W) (hn : iC ≠ iL ∧ iB ≠ iL ∧ iA ≠ iL ∧ iS ≠ iL) (hg : W.grownBy W' none) (h1 : vs' c.sc = vs c.sc) (h2 : vs' c.sb = vs c.sb) (h3 : vs' c.sa = vs c.sa) : FnI c iL iC iB iA iS (updB s iL) vs' W' := by
  have e2 : updB s iL iC = s iC := by rw [updB_at, if_neg hn.1]
  have e3 : updB s iL iB = s iB := by rw [updB_at, if_neg hn.2.1]
  have e4 : updB s iL iA = s iA := by rw [updB_at, if_neg hn.2.2.1]
  have e5 : updB s iL iS = s iS := by rw [updB_at, if_neg hn.2.2.2]
  refine ⟨fun _ => by rw [updB_at, if_pos rfl], by rw [e3, e2]; exact h.bc, by rw [e4, e3]; exact h.ab, by rw [e5, e4]; exact h.sa, grown_ext h.g (ext_of hg), Nat.le_trans h.lw hg.size, ok.xk _ _ _ h.x hg (by simp), ?_⟩
  have : stg iC iB iA iS (updB s iL) = stg iC iB iA iS s := by unfold stg; rw [e2, e3, e4, e5]
  rw [this]
  exact h.st.free ok (ext_of hg) h1 h2 h3
theorem FnI.called (ok : FnAOk c) (h : FnI c iL iC iB iA iS s vs W) (hc : s iC = false) (hn : iL ≠ iC ∧ iB ≠ iC ∧ iA ≠ iC ∧ iS ≠ iC) {y : Att.Fn} {j : Nat} {v : Value} (hr : c.r = .ok y j) (hR : c.R j W') (hg : W.grownBy W' (some c.b)) (ht : fnAt y W.heap.size W'.heap.size W' v) (h1 : vs' c.sc = v) : FnI c iL iC iB iA iS (updB s iC) vs' W' := by
  have e1 : updB s iC iL = s iL := by rw [updB_at, if_neg hn.1]
  have e3 : updB s iC iB = s iB := by rw [updB_at, if_neg hn.2.1]
  have e4 : updB s iC iA = s iA := by rw [updB_at, if_neg hn.2.2.1]
  have e5 : updB s iC iS = s iS := by rw [updB_at, if_neg hn.2.2.2]
  have hb : s iB = false := by cases e : s iB with | false => rfl | true => rw [h.bc e] at hc; cases hc
  have hst := h.st
  rw [fstg0 h hc] at hst
  obtain ⟨a1, a2, a3, a4⟩ := hst
  have H : FnI c iL iC iB iA iS (updB s iC) vs' W' ↔ FnI c iL iC iB iA iS (updB s iC) vs' W' := Iff.rfl
  refine ⟨by rw [e4, e1]; exact h.al, fun _ => by rw [updB_at, if_pos rfl], by rw [e4, e3]; exact h.ab, by rw [e5, e4]; exact h.sa, grown_one h.g hg, Nat.le_trans h.lw hg.size, ok.xk _ _ _ h.x hg (fun A e => .inl (Option.some.inj e).symm), ?_⟩
  have e6 : stg iC iB iA iS (updB s iC) = 1 := by
    have ea : s iA = false := by cases e : s iA with | false => rfl | true => rw [h.ab e] at hb; cases hb
    have es : s iS = false := by cases e : s iS with | false => rfl | true => rw [h.sa e] at ea; cases ea
    unfold stg; rw [e5, e4, e3, es, ea, hb, updB_at, if_pos rfl]; rfl
  rw [e6]
  refine ⟨y, j, hr, hR, a2.grown hg (fun e => ok.bq (Option.some.inj e).symm), a3.kept hg (fun r e => by cases e; exact ok.blo), ?_⟩
  refine (a4.kept hg (fun r e => by cases e; exact ok.blo)).app (.cons ⟨_, _, h.lw, Nat.le_refl _, by rw [h1]; exact ht, fun A hA => .inl (own_blk a3.own hA).2⟩ .nil)
theorem FnsEach.last {T E : TypeId} {lo : Nat} {kv : Value} {vp : List Value} {tp : List Att.Fn} {v : Value} {t : Att.Fn} (h : FnsEach T E lo W kv (vp ++ [v]) (tp ++ [t])) (hl : vp.length = tp.length) : ∃ p, v = .pointer (some ⟨p, 0, none⟩) := by
  induction vp generalizing tp with
  | nil =>
    cases tp with
    | nil => cases h with | cons h1 _ => obtain ⟨l, g, _, _, ht, _⟩ := h1; obtain ⟨q, e, _⟩ := ht.ptr; exact ⟨q, e⟩
    | cons t tp => simp at hl
  | cons u vp ih =>
    cases tp with
    | nil => simp at hl
    | cons t tp => cases h with | cons _ h2 => exact ih h2 (by simpa using hl)
theorem FnI.ptr (h : FnI c iL iC iB iA iS s vs W) (hc : s iC = true) (hb : s iB = false) (hl : c.vp.length = c.tp.length) : ∃ p, vs c.sc = .pointer (some ⟨p, 0, none⟩) := by
  have hst := h.st
  rw [fstg1 h hc hb] at hst
  obtain ⟨y, j, -, -, -, -, a4⟩ := hst
  exact a4.last hl
theorem FnI.built (ok : FnAOk c) (h : FnI c iL iC iB iA iS s vs W) (hc : s iC = true) (hb : s iB = false) (hn : iL ≠ iB ∧ iC ≠ iB ∧ iA ≠ iB ∧ iS ≠ iB) (hw : W' = W.alloc (.cells (c.vp ++ [vs c.sc]).toArray c.E)) (h1 : vs' c.sc = vs c.sc) (h2 : vs' c.sb = .slice (some ⟨W.heap.size, 0, none⟩) (c.vp ++ [vs c.sc]).length (c.vp ++ [vs c.sc]).length) : FnI c iL iC iB iA iS (updB s iB) vs' W' := by
  have e1 : updB s iB iL = s iL := by rw [updB_at, if_neg hn.1]
  have e2 : updB s iB iC = s iC := by rw [updB_at, if_neg hn.2.1]
  have e4 : updB s iB iA = s iA := by rw [updB_at, if_neg hn.2.2.1]
  have e5 : updB s iB iS = s iS := by rw [updB_at, if_neg hn.2.2.2]
  have hst := h.st
  rw [fstg1 h hc hb] at hst
  obtain ⟨y, j, a0, a1, a2, a3, a4⟩ := hst
  have hx : Ext W W' := by rw [hw]; exact Ext.alloc _ _
  have hg := hx.grownBy none
  have ha : s iA = false := by cases e : s iA with | false => rfl | true => rw [h.ab e] at hb; cases hb
  refine ⟨by rw [e4, e1]; exact h.al, fun _ => by rw [e2]; exact hc, fun _ => by rw [updB_at, if_pos rfl], by rw [e5, e4]; exact h.sa, grown_ext h.g hx, Nat.le_trans h.lw hg.size, ok.xk _ _ _ h.x hg (by simp), ?_⟩
  have e6 : stg iC iB iA iS (updB s iB) = 2 := by
    have es : s iS = false := by cases e : s iS with | false => rfl | true => rw [h.sa e] at ha; cases ha
    unfold stg; rw [e5, e4, es, ha, updB_at, if_pos rfl]; rfl
  rw [e6]
  exact ⟨y, j, a0, ok.rk _ _ _ none a1 hg (by simp), a2.ext hx, a3.kept hg (by simp), by rw [h1]; exact a4.kept hg (by simp), W.heap.size, by rw [h1]; exact h2, by rw [h1, hw]; exact BlkOf.new _ _ _⟩
theorem FnsEach.one {T E : TypeId} {lo : Nat} {kv : Value} {us : List Value} {ts : List Att.Fn} (h : FnsEach T E lo W kv us ts) : ∀ u ∈ us, u.oneCell' = true := by
  intro u hu
  unfold FnsEach at h
  induction h with
  | nil => cases hu
  | cons h1 _ ih =>
    rcases List.mem_cons.mp hu with e | e
    · subst e
      obtain ⟨l, g, _, _, ht, _⟩ := h1
      obtain ⟨q, e, _⟩ := ht.ptr
      rw [e]; rfl
    · exact ih e
theorem FnI.row (h : FnI c iL iC iB iA iS s vs W) (hb : s iB = true) (ha : s iA = false) : W.ownsRow c.lo c.E 1 c.kv c.ks.length c.vs0 ∧ ∃ z, vs c.sb = .slice (some ⟨z, 0, none⟩) (c.vp ++ [vs c.sc]).length (c.vp ++ [vs c.sc]).length ∧ BlkOf W z (c.vp ++ [vs c.sc]) c.E ∧ ∀ u ∈ c.vp ++ [vs c.sc], u.oneCell' = true := by
  have hst := h.st
  rw [fstg2 h hb ha] at hst
  obtain ⟨y, j, a0, a1, a2, a3, a4, z, a5, a6⟩ := hst
  exact ⟨a3.own, z, a5, a6, a4.one⟩
theorem FnsIn.apps {T E : TypeId} {lo : Nat} {kv kv' : Value} {vs us : List Value} {ks ts : List Att.Fn} (h : FnsIn T E lo W kv vs ks) (ht : FnsEach T E lo W kv us ts) (ho : W'.ownsRow lo E 1 kv' (ks.length + us.length) (vs ++ us)) (hg : W.grownBy W' kv.ownBlock) (hm : Moved W kv kv') : FnsIn T E lo W' kv' (vs ++ us) (ks ++ ts) := by
  have key : ∀ {us : List Value} {ts : List Att.Fn}, FnsEach T E lo W kv us ts → FnsEach T E lo W' kv' us ts := fun h => h.imp fun x t _ ⟨l, g, a1, a2, a3, a4⟩ => ⟨l, g, a1, Nat.le_trans a2 hg.size, a3.kept hg (fun r e => a4 r e), fun A hA => by
    rcases hm with e | e
    · exact a4 A (e ▸ hA)
    · have := e A hA; exact .inr (by omega)⟩
  exact ⟨by rw [List.length_append, ← ht.len]; exact ho, (key h.each).app (key ht)⟩
theorem FnI.appd (ok : FnAOk c) (h : FnI c iL iC iB iA iS s vs W) (hl : s iL = true) (hb : s iB = true) (ha : s iA = false) (hn : iL ≠ iA ∧ iC ≠ iA ∧ iB ≠ iA ∧ iS ≠ iA) {v' : Value} (ho : W'.ownsRow c.lo c.E 1 v' (c.ks.length + (c.vp ++ [vs c.sc]).length) (c.vs0 ++ (c.vp ++ [vs c.sc]))) (hg : W.grownBy W' c.kv.ownBlock) (hm : Moved W c.kv v') (h3 : vs' c.sa = v') : FnI c iL iC iB iA iS (updB s iA) vs' W' := by
  have e1 : updB s iA iL = s iL := by rw [updB_at, if_neg hn.1]
  have e2 : updB s iA iC = s iC := by rw [updB_at, if_neg hn.2.1]
  have e3 : updB s iA iB = s iB := by rw [updB_at, if_neg hn.2.2.1]
  have e5 : updB s iA iS = s iS := by rw [updB_at, if_neg hn.2.2.2]
  have hst := h.st
  rw [fstg2 h hb ha] at hst
  obtain ⟨y, j, a0, a1, a2, a3, a4, z, a5, a6⟩ := hst
  have hlo : ∀ A, c.kv.ownBlock = some A → c.lo ≤ A := fun A hA => (own_blk a3.own hA).1
  have hg2 : c.w0.grownBy W' (some c.b) := ⟨hg.os.trans h.g.os, hg.tape.trans h.g.tape, hg.output.trans h.g.output, Nat.le_trans h.g.size hg.size, fun k hk hne => by
    rw [hg.block k (Nat.lt_of_lt_of_le hk h.g.size) (fun e => by have := hlo k e.symm; have := ok.wq; have := ok.qlo; omega)]
    exact h.g.block k hk hne⟩
  refine ⟨fun _ => by rw [e1]; exact hl, by rw [e3, e2]; exact h.bc, fun _ => by rw [e3]; exact hb, fun hs => by rw [updB_at, if_pos rfl], hg2, Nat.le_trans h.lw hg.size, ok.xk _ _ _ h.x hg (fun A hA => .inr (.inr (hlo A hA))), ?_⟩
  have e6 : stg iC iB iA iS (updB s iA) = 3 := by
    have es : s iS = false := by cases e : s iS with | false => rfl | true => rw [h.sa e] at ha; cases ha
    exact stg3 (by rw [updB_at, if_pos rfl]) (by rw [e5]; exact es)
  rw [e6]
  exact ⟨y, j, _, a0, ok.rk _ _ _ _ a1 hg (fun A hA => by have := hlo A hA; have := ok.blo; omega), a2.grown hg (fun e => by have := hlo c.q e.symm; have := ok.qlo; omega), by rw [h3]; exact a3.apps a4 ho hg hm⟩
theorem FnI.stored (ok : FnAOk c) (h : FnI c iL iC iB iA iS s vs W) (ha : s iA = true) (hs : s iS = false) (hn : iL ≠ iS ∧ iC ≠ iS ∧ iB ≠ iS ∧ iA ≠ iS) {f : Nat} (hcs : ∀ u, (c.cs c.kv).set f u = c.cs u) (hw : W' = W.setCell ⟨c.q, f, none⟩ (vs c.sa)) : FnI c iL iC iB iA iS (updB s iS) vs' W' := by
  have e1 : updB s iS iL = s iL := by rw [updB_at, if_neg hn.1]
  have e2 : updB s iS iC = s iC := by rw [updB_at, if_neg hn.2.1]
  have e3 : updB s iS iB = s iB := by rw [updB_at, if_neg hn.2.2.1]
  have e4 : updB s iS iA = s iA := by rw [updB_at, if_neg hn.2.2.2]
  have hst := h.st
  rw [stg3 ha hs] at hst
  obtain ⟨y, j, us, a0, a1, a2, a3⟩ := hst
  have hg : W.grownBy W' (some c.q) := by rw [hw]; exact setCell_grown _ _ _ _
  have hg2 : c.w0.grownBy W' (some c.b) := ⟨hg.os.trans h.g.os, hg.tape.trans h.g.tape, hg.output.trans h.g.output, Nat.le_trans h.g.size hg.size, fun k hk hne => by
    rw [hg.block k (Nat.lt_of_lt_of_le hk h.g.size) (fun e => by have := Option.some.inj e; have := ok.wq; omega)]
    exact h.g.block k hk hne⟩
  refine ⟨by rw [e4, e1]; exact h.al, by rw [e3, e2]; exact h.bc, by rw [e4, e3]; exact h.ab, fun _ => by rw [e4]; exact ha, hg2, Nat.le_trans h.lw hg.size, ok.xk _ _ _ h.x hg (fun A hA => .inr (.inl (Option.some.inj hA).symm)), ?_⟩
  rw [stg4 (by rw [updB_at, if_pos rfl])]
  refine ⟨y, j, us, vs c.sa, a0, ok.rk _ _ _ _ a1 hg (fun A hA => by have := Option.some.inj hA; have := ok.bq; omega), ?_, a3.kept hg (fun r e => by have := Option.some.inj e; have := ok.qlo; omega)⟩
  rw [hw, ← hcs (vs c.sa)]
  exact a2.set f _
theorem FnI.node3 (h : FnI c iL iC iB iA iS s vs W) (ha : s iA = true) (hs : s iS = false) : BlkOf W c.q (c.cs c.kv) c.T ∧ ∃ ao n cap, vs c.sa = .slice ao n cap := by
  have hst := h.st
  rw [stg3 ha hs] at hst
  obtain ⟨y, j, us, a0, a1, a2, a3⟩ := hst
  obtain ⟨ao, cap, e⟩ := own_shape a3.own
  exact ⟨a2, ao, _, cap, e⟩
theorem FnI.end_ (h : FnI c iL iC iB iA iS s vs W) (hs : s iS = true) : c.w0.grownBy W (some c.b) ∧ c.X W ∧ c.lo ≤ W.heap.size ∧ ∃ y j us kv', c.r = .ok y j ∧ c.R j W ∧ BlkOf W c.q (c.cs kv') c.T ∧ FnsIn c.T c.E c.lo W kv' us (c.ks ++ (c.tp ++ [y])) := by
  have hst := h.st
  rw [stg4 hs] at hst
  exact ⟨h.g, h.x, h.lw, hst⟩
end
theorem FnsIn.done {T : TypeId} {lo : Nat} {w : World} {kv : Value} {vs : List Value} {fs : List Att.Fn} {lo' : Nat} (h : FnsIn T 72 lo w kv vs fs) (hl : lo' ≤ lo) : fsAt fs lo' w.heap.size w kv :=
  ⟨vs, own_from h.own hl, fun A hA => (own_blk h.own hA).2, h.each.imp fun x t _ ⟨l, g, a1, a2, a3, _⟩ => a3.mono (by omega) a2⟩
end Go.Proofs.YtgnomhbbbcfehaaGreatDoor
