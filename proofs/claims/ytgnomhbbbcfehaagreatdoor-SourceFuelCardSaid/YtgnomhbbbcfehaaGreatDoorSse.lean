/- Two lists of a block grow in one drawn region: what is said, by what is done. -/
import Derived.Test.YtgnomhbbbcfehaaGreatDoorSsc
namespace Go.Att
open Go.RowKit
structure TwoC where
  w0 : World
  b : Nat
  q : Nat
  lo : Nat
  X : World → Prop
  cs : Value → Value → List Value
  T : TypeId
  e1 : TypeId
  v1 : Value
  xs1 : List Value
  n1 : Nat
  u1 : Value
  b1 : Nat
  a1 : Nat
  e2 : TypeId
  v2 : Value
  xs2 : List Value
  n2 : Nat
  u2 : Value
  b2 : Nat
  a2 : Nat
structure TwoOk (c : TwoC) : Prop where
  xk : ∀ W W' row, c.X W → W.grownBy W' row → (∀ A, row = some A → A = c.q ∨ c.lo ≤ A) → c.X W'
  bq : c.b ≠ c.q
  blo : c.b < c.lo
  qlo : c.q < c.lo
  wq : c.w0.heap.size ≤ c.q
  ne : c.e1 ≠ c.e2
def OneI (lo : Nat) (e : TypeId) (v : Value) (xs : List Value) (n : Nat) (u : Value) (sb sa : Nat) (sB sA : Bool) (vs : Nat → Value) (W : World) : Prop :=
  (sA = true → W.ownsRow lo e 1 (vs sa) (n + 1) (xs ++ [u])) ∧ (sA = false → W.ownsRow lo e 1 v n xs) ∧ (sB = true → ∃ z, vs sb = .slice (some ⟨z, 0, none⟩) 1 1 ∧ lo ≤ z ∧ (sA = false → BlkOf W z [u] e))
structure TwoI (c : TwoC) (l1 m1 p1 s1 l2 m2 p2 s2 : Nat) (s : Nat → Bool) (vs : Nat → Value) (W : World) : Prop where
  la1 : s p1 = true → s l1 = true
  ba1 : s p1 = true → s m1 = true
  as1 : s s1 = true → s p1 = true
  la2 : s p2 = true → s l2 = true
  ba2 : s p2 = true → s m2 = true
  as2 : s s2 = true → s p2 = true
  g : c.w0.grownBy W (some c.b)
  lw : c.lo ≤ W.heap.size
  x : c.X W
  one : OneI c.lo c.e1 c.v1 c.xs1 c.n1 c.u1 c.b1 c.a1 (s m1) (s p1) vs W
  two : OneI c.lo c.e2 c.v2 c.xs2 c.n2 c.u2 c.b2 c.a2 (s m2) (s p2) vs W
  node : BlkOf W c.q (c.cs (if s s1 then vs c.a1 else c.v1) (if s s2 then vs c.a2 else c.v2)) c.T
section
variable {lo n sb sa : Nat} {e : TypeId} {v u : Value} {xs : List Value} {sB sA : Bool} {vs vs' : Nat → Value} {W W' : World}
theorem OneI.kept (h : OneI lo e v xs n u sb sa sB sA vs W) {row : Option Nat} (hg : W.grownBy W' row) (hr : ∀ A, row = some A → A < lo ∨ ∃ cs e2, W.heap[A]? = some (.cells cs e2 (0, 0)) ∧ e2 ≠ e) (h1 : vs' sb = vs sb) (h2 : vs' sa = vs sa) : OneI lo e v xs n u sb sa sB sA vs' W' := by
  have key : ∀ {v : Value} {n : Nat} {xs : List Value}, W.ownsRow lo e 1 v n xs → W'.ownsRow lo e 1 v n xs := by
    intro v n xs ho
    refine own_kept ho hg (fun A hA er => ?_)
    have hb := own_blk ho hA
    rcases hr A er.symm with h | ⟨cs, e2, hc, hne⟩
    · omega
    · rcases ho.2 with ⟨rfl, _⟩ | ⟨g, cap, cur, rfl, hbg, hgg, _⟩
      · cases hA
      · cases hA; rw [hc] at hgg; cases hgg; exact hne rfl
  refine ⟨fun hA => by rw [h2]; exact key (h.1 hA), fun hA => key (h.2.1 hA), fun hB => ?_⟩
  obtain ⟨z, e1, hz, hb⟩ := h.2.2 hB
  refine ⟨z, by rw [h1]; exact e1, hz, fun hA => ?_⟩
  have hb := hb hA
  refine hb.grown hg (fun er => ?_)
  rcases hr z er.symm with h | ⟨cs, e2, hc, hne⟩
  · omega
  · unfold BlkOf at hb; rw [hb] at hc; cases hc; exact hne rfl
end
section
variable {c : TwoC} {l1 m1 p1 s1 l2 m2 p2 s2 : Nat} {s s' : Nat → Bool} {vs vs' : Nat → Value} {W W' : World}
theorem TwoI.free (ok : TwoOk c) (h : TwoI c l1 m1 p1 s1 l2 m2 p2 s2 s vs W) (hg : W.grownBy W' none) (e1 : s' l1 = s l1) (e2 : s' m1 = s m1) (e3 : s' p1 = s p1) (e4 : s' s1 = s s1) (f1 : s' l2 = s l2) (f2 : s' m2 = s m2) (f3 : s' p2 = s p2) (f4 : s' s2 = s s2) (hb1 : vs' c.b1 = vs c.b1) (ha1 : vs' c.a1 = vs c.a1) (hb2 : vs' c.b2 = vs c.b2) (ha2 : vs' c.a2 = vs c.a2) : TwoI c l1 m1 p1 s1 l2 m2 p2 s2 s' vs' W' := by
  have hx := ext_of hg
  refine ⟨by rw [e3, e1]; exact h.la1, by rw [e3, e2]; exact h.ba1, by rw [e4, e3]; exact h.as1, by rw [f3, f1]; exact h.la2, by rw [f3, f2]; exact h.ba2, by rw [f4, f3]; exact h.as2, grown_ext h.g hx, Nat.le_trans h.lw hg.size, ok.xk _ _ _ h.x hg (by simp), ?_, ?_, ?_⟩
  · rw [e2, e3]; exact h.one.kept hg (by simp) hb1 ha1
  · rw [f2, f3]; exact h.two.kept hg (by simp) hb2 ha2
  · rw [e4, f4, ha1, ha2]; exact h.node.ext hx
theorem TwoI.load1 (h : TwoI c l1 m1 p1 s1 l2 m2 p2 s2 s vs W) (hl : s l1 = false) : BlkOf W c.q (c.cs c.v1 (if s s2 then vs c.a2 else c.v2)) c.T := by
  have hs : s s1 = false := by cases e : s s1 with | false => rfl | true => rw [h.la1 (h.as1 e)] at hl; cases hl
  have := h.node
  rw [hs] at this
  exact this
theorem TwoI.load2 (h : TwoI c l1 m1 p1 s1 l2 m2 p2 s2 s vs W) (hl : s l2 = false) : BlkOf W c.q (c.cs (if s s1 then vs c.a1 else c.v1) c.v2) c.T := by
  have hs : s s2 = false := by cases e : s s2 with | false => rfl | true => rw [h.la2 (h.as2 e)] at hl; cases hl
  have := h.node
  rw [hs] at this
  exact this
theorem TwoI.mark1 (ok : TwoOk c) (h : TwoI c l1 m1 p1 s1 l2 m2 p2 s2 s vs W) (hg : W.grownBy W' none) (hn : m1 ≠ l1 ∧ p1 ≠ l1 ∧ s1 ≠ l1 ∧ l2 ≠ l1 ∧ m2 ≠ l1 ∧ p2 ≠ l1 ∧ s2 ≠ l1) (hb1 : vs' c.b1 = vs c.b1) (ha1 : vs' c.a1 = vs c.a1) (hb2 : vs' c.b2 = vs c.b2) (ha2 : vs' c.a2 = vs c.a2) : TwoI c l1 m1 p1 s1 l2 m2 p2 s2 (updB s l1) vs' W' := by
  have k : ∀ {x}, x ≠ l1 → updB s l1 x = s x := fun hx => by rw [updB_at, if_neg hx]
  obtain ⟨n1, n2, n3, n4, n5, n6, n7⟩ := hn
  have h2 := h.free ok hg (s' := s) rfl rfl rfl rfl rfl rfl rfl rfl hb1 ha1 hb2 ha2
  refine ⟨fun _ => by rw [updB_at, if_pos rfl], by rw [k n2, k n1]; exact h2.ba1, by rw [k n3, k n2]; exact h2.as1, by rw [k n6, k n4]; exact h2.la2, by rw [k n6, k n5]; exact h2.ba2, by rw [k n7, k n6]; exact h2.as2, h2.g, h2.lw, h2.x, by rw [k n1, k n2]; exact h2.one, by rw [k n5, k n6]; exact h2.two, by rw [k n3, k n7]; exact h2.node⟩
theorem TwoI.mark2 (ok : TwoOk c) (h : TwoI c l1 m1 p1 s1 l2 m2 p2 s2 s vs W) (hg : W.grownBy W' none) (hn : l1 ≠ l2 ∧ m1 ≠ l2 ∧ p1 ≠ l2 ∧ s1 ≠ l2 ∧ m2 ≠ l2 ∧ p2 ≠ l2 ∧ s2 ≠ l2) (hb1 : vs' c.b1 = vs c.b1) (ha1 : vs' c.a1 = vs c.a1) (hb2 : vs' c.b2 = vs c.b2) (ha2 : vs' c.a2 = vs c.a2) : TwoI c l1 m1 p1 s1 l2 m2 p2 s2 (updB s l2) vs' W' := by
  have k : ∀ {x}, x ≠ l2 → updB s l2 x = s x := fun hx => by rw [updB_at, if_neg hx]
  obtain ⟨n1, n2, n3, n4, n5, n6, n7⟩ := hn
  have h2 := h.free ok hg (s' := s) rfl rfl rfl rfl rfl rfl rfl rfl hb1 ha1 hb2 ha2
  refine ⟨by rw [k n3, k n1]; exact h2.la1, by rw [k n3, k n2]; exact h2.ba1, by rw [k n4, k n3]; exact h2.as1, fun _ => by rw [updB_at, if_pos rfl], by rw [k n6, k n5]; exact h2.ba2, by rw [k n7, k n6]; exact h2.as2, h2.g, h2.lw, h2.x, by rw [k n2, k n3]; exact h2.one, by rw [k n5, k n6]; exact h2.two, by rw [k n4, k n7]; exact h2.node⟩
theorem TwoI.built1 (ok : TwoOk c) (h : TwoI c l1 m1 p1 s1 l2 m2 p2 s2 s vs W) (hm : s m1 = false) (hn : l1 ≠ m1 ∧ p1 ≠ m1 ∧ s1 ≠ m1 ∧ l2 ≠ m1 ∧ m2 ≠ m1 ∧ p2 ≠ m1 ∧ s2 ≠ m1) (hw : W' = W.alloc (.cells #[c.u1] c.e1)) (hb1 : vs' c.b1 = .slice (some ⟨W.heap.size, 0, none⟩) 1 1) (ha1 : vs' c.a1 = vs c.a1) (hb2 : vs' c.b2 = vs c.b2) (ha2 : vs' c.a2 = vs c.a2) : TwoI c l1 m1 p1 s1 l2 m2 p2 s2 (updB s m1) vs' W' := by
  have k : ∀ {x}, x ≠ m1 → updB s m1 x = s x := fun hx => by rw [updB_at, if_neg hx]
  obtain ⟨n1, n2, n3, n4, n5, n6, n7⟩ := hn
  have hx : Ext W W' := by rw [hw]; exact Ext.alloc _ _
  have hg := hx.grownBy none
  have hp : s p1 = false := by cases e : s p1 with | false => rfl | true => rw [h.ba1 e] at hm; cases hm
  have hs1 : s s1 = false := by cases e : s s1 with | false => rfl | true => rw [h.as1 e] at hp; cases hp
  refine ⟨by rw [k n2, k n1]; exact h.la1, fun _ => by rw [updB_at, if_pos rfl], by rw [k n3, k n2]; exact h.as1, by rw [k n6, k n4]; exact h.la2, by rw [k n6, k n5]; exact h.ba2, by rw [k n7, k n6]; exact h.as2, grown_ext h.g hx, Nat.le_trans h.lw hg.size, ok.xk _ _ _ h.x hg (by simp), ?_, by rw [k n5, k n6]; exact h.two.kept hg (by simp) hb2 ha2, by rw [k n3, k n7, ha1, ha2]; exact h.node.ext hx⟩
  rw [k n2, hp]
  refine ⟨fun e => (by cases e), fun _ => own_ext (h.one.2.1 hp) hx, fun _ => ⟨W.heap.size, hb1, h.lw, fun _ => by rw [hw]; exact BlkOf.new W [c.u1] c.e1⟩⟩
theorem TwoI.built2 (ok : TwoOk c) (h : TwoI c l1 m1 p1 s1 l2 m2 p2 s2 s vs W) (hm : s m2 = false) (hn : l1 ≠ m2 ∧ m1 ≠ m2 ∧ p1 ≠ m2 ∧ s1 ≠ m2 ∧ l2 ≠ m2 ∧ p2 ≠ m2 ∧ s2 ≠ m2) (hw : W' = W.alloc (.cells #[c.u2] c.e2)) (hb1 : vs' c.b1 = vs c.b1) (ha1 : vs' c.a1 = vs c.a1) (hb2 : vs' c.b2 = .slice (some ⟨W.heap.size, 0, none⟩) 1 1) (ha2 : vs' c.a2 = vs c.a2) : TwoI c l1 m1 p1 s1 l2 m2 p2 s2 (updB s m2) vs' W' := by
  have k : ∀ {x}, x ≠ m2 → updB s m2 x = s x := fun hx => by rw [updB_at, if_neg hx]
  obtain ⟨n1, n2, n3, n4, n5, n6, n7⟩ := hn
  have hx : Ext W W' := by rw [hw]; exact Ext.alloc _ _
  have hg := hx.grownBy none
  have hp : s p2 = false := by cases e : s p2 with | false => rfl | true => rw [h.ba2 e] at hm; cases hm
  refine ⟨by rw [k n3, k n1]; exact h.la1, by rw [k n3, k n2]; exact h.ba1, by rw [k n4, k n3]; exact h.as1, by rw [k n6, k n5]; exact h.la2, fun _ => by rw [updB_at, if_pos rfl], by rw [k n7, k n6]; exact h.as2, grown_ext h.g hx, Nat.le_trans h.lw hg.size, ok.xk _ _ _ h.x hg (by simp), by rw [k n2, k n3]; exact h.one.kept hg (by simp) hb1 ha1, ?_, by rw [k n4, k n7, ha1, ha2]; exact h.node.ext hx⟩
  rw [k n6, hp]
  refine ⟨fun e => (by cases e), fun _ => own_ext (h.two.2.1 hp) hx, fun _ => ⟨W.heap.size, hb2, h.lw, fun _ => by rw [hw]; exact BlkOf.new W [c.u2] c.e2⟩⟩
theorem own_obj {B e sz n : Nat} {v : Value} {xs : List Value} (h : W.ownsRow B e sz v n xs) {A : Nat} (ha : v.ownBlock = some A) : ∃ cur, W.heap[A]? = some (.cells cur e (0, 0)) := by
  rcases h.2 with ⟨rfl, _⟩ | ⟨g, cap, cur, rfl, hbg, hgg, hr⟩
  · cases ha
  · cases ha; exact ⟨cur, hgg⟩
theorem TwoI.row1 (h : TwoI c l1 m1 p1 s1 l2 m2 p2 s2 s vs W) (hm : s m1 = true) (hp : s p1 = false) : W.ownsRow c.lo c.e1 1 c.v1 c.n1 c.xs1 ∧ ∃ z, vs c.b1 = .slice (some ⟨z, 0, none⟩) 1 1 ∧ BlkOf W z [c.u1] c.e1 := by
  obtain ⟨z, h1, _, h2⟩ := h.one.2.2 hm
  exact ⟨h.one.2.1 hp, z, h1, h2 hp⟩
theorem TwoI.row2 (h : TwoI c l1 m1 p1 s1 l2 m2 p2 s2 s vs W) (hm : s m2 = true) (hp : s p2 = false) : W.ownsRow c.lo c.e2 1 c.v2 c.n2 c.xs2 ∧ ∃ z, vs c.b2 = .slice (some ⟨z, 0, none⟩) 1 1 ∧ BlkOf W z [c.u2] c.e2 := by
  obtain ⟨z, h1, _, h2⟩ := h.two.2.2 hm
  exact ⟨h.two.2.1 hp, z, h1, h2 hp⟩
theorem TwoI.appd1 (ok : TwoOk c) (h : TwoI c l1 m1 p1 s1 l2 m2 p2 s2 s vs W) (hl : s l1 = true) (hm : s m1 = true) (hp : s p1 = false) (hn : l1 ≠ p1 ∧ m1 ≠ p1 ∧ s1 ≠ p1 ∧ l2 ≠ p1 ∧ m2 ≠ p1 ∧ p2 ≠ p1 ∧ s2 ≠ p1) {v' : Value} (ho : W'.ownsRow c.lo c.e1 1 v' (c.n1 + 1) (c.xs1 ++ [c.u1])) (hg : W.grownBy W' c.v1.ownBlock) (hb1 : vs' c.b1 = vs c.b1) (ha1 : vs' c.a1 = v') (hb2 : vs' c.b2 = vs c.b2) (ha2 : vs' c.a2 = vs c.a2) : TwoI c l1 m1 p1 s1 l2 m2 p2 s2 (updB s p1) vs' W' := by
  have k : ∀ {x}, x ≠ p1 → updB s p1 x = s x := fun hx => by rw [updB_at, if_neg hx]
  obtain ⟨n1, n2, n3, n4, n5, n6, n7⟩ := hn
  have ho1 := h.one.2.1 hp
  have hlo : ∀ A, c.v1.ownBlock = some A → c.lo ≤ A := fun A hA => (own_blk ho1 hA).1
  have hs1 : s s1 = false := by cases e : s s1 with | false => rfl | true => rw [h.as1 e] at hp; cases hp
  have hg2 : c.w0.grownBy W' (some c.b) := ⟨hg.os.trans h.g.os, hg.tape.trans h.g.tape, hg.output.trans h.g.output, Nat.le_trans h.g.size hg.size, fun j hj hne => by
    rw [hg.block j (Nat.lt_of_lt_of_le hj h.g.size) (fun e => by have := hlo j e.symm; have := ok.wq; have := ok.qlo; omega)]
    exact h.g.block j hj hne⟩
  obtain ⟨z, hz1, hz2, hz3⟩ := h.one.2.2 hm
  refine ⟨fun _ => by rw [k n1]; exact hl, fun _ => by rw [k n2]; exact hm, fun _ => by rw [updB_at, if_pos rfl], by rw [k n6, k n4]; exact h.la2, by rw [k n6, k n5]; exact h.ba2, by rw [k n7, k n6]; exact h.as2, hg2, Nat.le_trans h.lw hg.size, ok.xk _ _ _ h.x hg (fun A hA => .inr (hlo A hA)), ?_, ?_, ?_⟩
  · rw [k n2, hm, show updB s p1 p1 = true from by rw [updB_at, if_pos rfl]]
    exact ⟨fun _ => by rw [ha1]; exact ho, fun e => (by cases e), fun _ => ⟨z, by rw [hb1]; exact hz1, hz2, fun e => (by cases e)⟩⟩
  · rw [k n5, k n6]
    refine h.two.kept hg (fun A hA => .inr ?_) hb2 ha2
    obtain ⟨cur, hc⟩ := own_obj ho1 hA
    exact ⟨cur, _, hc, ok.ne⟩
  · rw [k n3, k n7, hs1, ha2]
    have := h.node
    rw [hs1] at this
    exact this.grown hg (fun e => by have := hlo c.q e.symm; have := ok.qlo; omega)
theorem TwoI.appd2 (ok : TwoOk c) (h : TwoI c l1 m1 p1 s1 l2 m2 p2 s2 s vs W) (hl : s l2 = true) (hm : s m2 = true) (hp : s p2 = false) (hn : l1 ≠ p2 ∧ m1 ≠ p2 ∧ p1 ≠ p2 ∧ s1 ≠ p2 ∧ l2 ≠ p2 ∧ m2 ≠ p2 ∧ s2 ≠ p2) {v' : Value} (ho : W'.ownsRow c.lo c.e2 1 v' (c.n2 + 1) (c.xs2 ++ [c.u2])) (hg : W.grownBy W' c.v2.ownBlock) (hb1 : vs' c.b1 = vs c.b1) (ha1 : vs' c.a1 = vs c.a1) (hb2 : vs' c.b2 = vs c.b2) (ha2 : vs' c.a2 = v') : TwoI c l1 m1 p1 s1 l2 m2 p2 s2 (updB s p2) vs' W' := by
  have k : ∀ {x}, x ≠ p2 → updB s p2 x = s x := fun hx => by rw [updB_at, if_neg hx]
  obtain ⟨n1, n2, n3, n4, n5, n6, n7⟩ := hn
  have ho1 := h.two.2.1 hp
  have hlo : ∀ A, c.v2.ownBlock = some A → c.lo ≤ A := fun A hA => (own_blk ho1 hA).1
  have hs1 : s s2 = false := by cases e : s s2 with | false => rfl | true => rw [h.as2 e] at hp; cases hp
  have hg2 : c.w0.grownBy W' (some c.b) := ⟨hg.os.trans h.g.os, hg.tape.trans h.g.tape, hg.output.trans h.g.output, Nat.le_trans h.g.size hg.size, fun j hj hne => by
    rw [hg.block j (Nat.lt_of_lt_of_le hj h.g.size) (fun e => by have := hlo j e.symm; have := ok.wq; have := ok.qlo; omega)]
    exact h.g.block j hj hne⟩
  obtain ⟨z, hz1, hz2, hz3⟩ := h.two.2.2 hm
  refine ⟨by rw [k n3, k n1]; exact h.la1, by rw [k n3, k n2]; exact h.ba1, by rw [k n4, k n3]; exact h.as1, fun _ => by rw [k n5]; exact hl, fun _ => by rw [k n6]; exact hm, fun _ => by rw [updB_at, if_pos rfl], hg2, Nat.le_trans h.lw hg.size, ok.xk _ _ _ h.x hg (fun A hA => .inr (hlo A hA)), ?_, ?_, ?_⟩
  · rw [k n2, k n3]
    refine h.one.kept hg (fun A hA => .inr ?_) hb1 ha1
    obtain ⟨cur, hc⟩ := own_obj ho1 hA
    exact ⟨cur, _, hc, fun e => ok.ne e.symm⟩
  · rw [k n6, hm, show updB s p2 p2 = true from by rw [updB_at, if_pos rfl]]
    exact ⟨fun _ => by rw [ha2]; exact ho, fun e => (by cases e), fun _ => ⟨z, by rw [hb2]; exact hz1, hz2, fun e => (by cases e)⟩⟩
  · rw [k n4, k n7, hs1, ha1]
    have := h.node
    rw [hs1] at this
    exact this.grown hg (fun e => by have := hlo c.q e.symm; have := ok.qlo; omega)
theorem TwoI.sl1 (h : TwoI c l1 m1 p1 s1 l2 m2 p2 s2 s vs W) (hp : s p1 = true) : ∃ ao nn cap, vs c.a1 = .slice ao nn cap := by
  obtain ⟨ao, cap, e⟩ := own_shape (h.one.1 hp)
  exact ⟨ao, _, cap, e⟩
theorem TwoI.sl2 (h : TwoI c l1 m1 p1 s1 l2 m2 p2 s2 s vs W) (hp : s p2 = true) : ∃ ao nn cap, vs c.a2 = .slice ao nn cap := by
  obtain ⟨ao, cap, e⟩ := own_shape (h.two.1 hp)
  exact ⟨ao, _, cap, e⟩
theorem TwoI.stored1 (ok : TwoOk c) (h : TwoI c l1 m1 p1 s1 l2 m2 p2 s2 s vs W) (hp : s p1 = true) (hs : s s1 = false) (hn : l1 ≠ s1 ∧ m1 ≠ s1 ∧ p1 ≠ s1 ∧ l2 ≠ s1 ∧ m2 ≠ s1 ∧ p2 ≠ s1 ∧ s2 ≠ s1) {f : Nat} (hcs : ∀ u v, (c.cs c.v1 v).set f u = c.cs u v) (hw : W' = W.setCell ⟨c.q, f, none⟩ (vs c.a1)) (hb1 : vs' c.b1 = vs c.b1) (ha1 : vs' c.a1 = vs c.a1) (hb2 : vs' c.b2 = vs c.b2) (ha2 : vs' c.a2 = vs c.a2) : TwoI c l1 m1 p1 s1 l2 m2 p2 s2 (updB s s1) vs' W' := by
  have k : ∀ {x}, x ≠ s1 → updB s s1 x = s x := fun hx => by rw [updB_at, if_neg hx]
  obtain ⟨n1, n2, n3, n4, n5, n6, n7⟩ := hn
  have hg : W.grownBy W' (some c.q) := by rw [hw]; exact setCell_grown _ _ _ _
  have hg2 : c.w0.grownBy W' (some c.b) := ⟨hg.os.trans h.g.os, hg.tape.trans h.g.tape, hg.output.trans h.g.output, Nat.le_trans h.g.size hg.size, fun j hj hne => by
    rw [hg.block j (Nat.lt_of_lt_of_le hj h.g.size) (fun e => by have := Option.some.inj e; have := ok.wq; omega)]
    exact h.g.block j hj hne⟩
  refine ⟨by rw [k n3, k n1]; exact h.la1, by rw [k n3, k n2]; exact h.ba1, fun _ => by rw [k n3]; exact hp, by rw [k n6, k n4]; exact h.la2, by rw [k n6, k n5]; exact h.ba2, by rw [k n7, k n6]; exact h.as2, hg2, Nat.le_trans h.lw hg.size, ok.xk _ _ _ h.x hg (fun A hA => .inl (Option.some.inj hA).symm), ?_, ?_, ?_⟩
  · rw [k n2, k n3]; exact h.one.kept hg (fun A hA => .inl (by have := Option.some.inj hA; have := ok.qlo; omega)) hb1 ha1
  · rw [k n5, k n6]; exact h.two.kept hg (fun A hA => .inl (by have := Option.some.inj hA; have := ok.qlo; omega)) hb2 ha2
  · rw [k n7, show updB s s1 s1 = true from by rw [updB_at, if_pos rfl], if_pos rfl, ha1, ha2, hw, ← hcs]
    have := h.node
    rw [hs] at this
    exact this.set f _
theorem TwoI.stored2 (ok : TwoOk c) (h : TwoI c l1 m1 p1 s1 l2 m2 p2 s2 s vs W) (hp : s p2 = true) (hs : s s2 = false) (hn : l1 ≠ s2 ∧ m1 ≠ s2 ∧ p1 ≠ s2 ∧ s1 ≠ s2 ∧ l2 ≠ s2 ∧ m2 ≠ s2 ∧ p2 ≠ s2) {f : Nat} (hcs : ∀ u v, (c.cs v c.v2).set f u = c.cs v u) (hw : W' = W.setCell ⟨c.q, f, none⟩ (vs c.a2)) (hb1 : vs' c.b1 = vs c.b1) (ha1 : vs' c.a1 = vs c.a1) (hb2 : vs' c.b2 = vs c.b2) (ha2 : vs' c.a2 = vs c.a2) : TwoI c l1 m1 p1 s1 l2 m2 p2 s2 (updB s s2) vs' W' := by
  have k : ∀ {x}, x ≠ s2 → updB s s2 x = s x := fun hx => by rw [updB_at, if_neg hx]
  obtain ⟨n1, n2, n3, n4, n5, n6, n7⟩ := hn
  have hg : W.grownBy W' (some c.q) := by rw [hw]; exact setCell_grown _ _ _ _
  have hg2 : c.w0.grownBy W' (some c.b) := ⟨hg.os.trans h.g.os, hg.tape.trans h.g.tape, hg.output.trans h.g.output, Nat.le_trans h.g.size hg.size, fun j hj hne => by
    rw [hg.block j (Nat.lt_of_lt_of_le hj h.g.size) (fun e => by have := Option.some.inj e; have := ok.wq; omega)]
    exact h.g.block j hj hne⟩
  refine ⟨by rw [k n3, k n1]; exact h.la1, by rw [k n3, k n2]; exact h.ba1, by rw [k n4, k n3]; exact h.as1, by rw [k n7, k n5]; exact h.la2, by rw [k n7, k n6]; exact h.ba2, fun _ => by rw [k n7]; exact hp, hg2, Nat.le_trans h.lw hg.size, ok.xk _ _ _ h.x hg (fun A hA => .inl (Option.some.inj hA).symm), ?_, ?_, ?_⟩
  · rw [k n2, k n3]; exact h.one.kept hg (fun A hA => .inl (by have := Option.some.inj hA; have := ok.qlo; omega)) hb1 ha1
  · rw [k n6, k n7]; exact h.two.kept hg (fun A hA => .inl (by have := Option.some.inj hA; have := ok.qlo; omega)) hb2 ha2
  · rw [k n4, show updB s s2 s2 = true from by rw [updB_at, if_pos rfl], ha1, ha2, hw]
    have := h.node
    rw [hs] at this
    rw [if_pos rfl, ← hcs]
    exact this.set f _
theorem TwoI.end_ (h : TwoI c l1 m1 p1 s1 l2 m2 p2 s2 s vs W) (h1 : s s1 = true) (h2 : s s2 = true) : c.w0.grownBy W (some c.b) ∧ c.lo ≤ W.heap.size ∧ c.X W ∧ W.ownsRow c.lo c.e1 1 (vs c.a1) (c.n1 + 1) (c.xs1 ++ [c.u1]) ∧ W.ownsRow c.lo c.e2 1 (vs c.a2) (c.n2 + 1) (c.xs2 ++ [c.u2]) ∧ BlkOf W c.q (c.cs (vs c.a1) (vs c.a2)) c.T := by
  have := h.node
  rw [h1, h2, if_pos rfl, if_pos rfl] at this
  exact ⟨h.g, h.lw, h.x, h.one.1 (h.as1 h1), h.two.1 (h.as2 h2), this⟩
end
end Go.Att
