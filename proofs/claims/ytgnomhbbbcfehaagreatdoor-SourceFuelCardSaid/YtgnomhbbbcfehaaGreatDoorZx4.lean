/- Programs as text, in plain words: what is written is read as what it was: all parts; functions. No program in sight. A program's parts, as they lie: where a part lies, what it is; its parts, under way. -/
import Derived.Test.YtgnomhbbbcfehaaGreatDoorSr5
import Derived.Test.YtgnomhbbbcfehaaGreatDoorSs4
section
namespace Go.Att
inductive Each {α β : Type} (Q : α → β → Prop) : List α → List β → Prop
  | nil : Each Q [] []
  | cons {x : α} {w : β} {xs : List α} {ws : List β} (h : Q x w) (ht : Each Q xs ws) : Each Q (x :: xs) (w :: ws)
section
variable {L : List UInt8}
theorem enter_at {k i : Nat} : enterT L (k + 1) i = .ok () (nxtN L i) := by unfold enterT; rw [if_neg (by omega)]
theorem must_at {i : Nat} {r s : List UInt8} (hr : L.drop i = r) (h : isS r s = true) : mustT L i s = .ok () (nxtN L i) := by unfold mustT; rw [isT_at hr, h, if_pos rfl]
theorem neg_part {k p : Nat} {a : Tr} (ha : CPart L k a (prT a 4)) (hf : Fit k 4 a) : CPart L (k + 1) (.mk 7 0 [] [a] p) (prT (.mk 7 0 [] [a] p) 0) := fun i r u hi hr hs hu => by
  have hbody : prT (.mk 7 0 [] [a] p) 0 = 45 :: prT a 4 := by rw [prT_mk, if_neg (by omega)]; rfl
  rw [hbody] at hs
  have ht : tkS r = ⟨3, 0, [45]⟩ := by unfold tkS; rw [hs]; rfl
  have hd : advS r = prT a 4 ++ u := by unfold advS; rw [ht, hs]; rfl
  obtain ⟨a', j, h1, h2, h3, h4⟩ := ha (nxtN L i) (advS r) u (nxtN_le L i hi) (nxt_at hr) (by rw [hd]; exact hd_at hf u) hu
  refine ⟨.mk 7 0 [] [a'] (tokN L i).pos, j, ?_, by rw [erT_mk, erT_mk]; simp [h2], h3, h4⟩
  change partT L (k + 1) _ _ i = _
  have i40 : isT L i [40] = false := by rw [isT_at hr]; unfold isS; rw [ht]; rfl
  have i45 : isT L i [45] = true := by rw [isT_at hr]; unfold isS; rw [ht]; rfl
  unfold partT
  rw [if_neg (by rw [(tokN_at hr).1, ht]; decide), i40, if_neg (by simp), i45, if_pos rfl, enter_at]
  simp only [Ps.bind]
  rw [h1]
theorem own_at {r w x : List UInt8} (hs : stripS r = w ++ 32 :: x) (hw : w ∈ ownW) : tkS r = ⟨1, 0, w⟩ ∧ advS r = 32 :: x := by
  have h := tk_word (r := r) (w := w) (u := 32 :: x) hs (by
    simp only [ownW, List.mem_cons, List.not_mem_nil, or_false] at hw
    rcases hw with rfl | rfl | rfl | rfl | rfl | rfl <;> decide) (by rintro rfl; simp [ownW] at hw) rfl
  refine ⟨h.1.trans ?_, h.2⟩
  have : kindW w = 1 := by
    simp only [ownW, List.mem_cons, List.not_mem_nil, or_false] at hw
    rcases hw with rfl | rfl | rfl | rfl | rfl | rfl <;> rfl
  rw [this]
theorem let_exp {k p : Nat} {s : List UInt8} {a b : Tr} (h : NameOk s) (ha : CExp L k a (prT a 0)) (hb : CExp L k b (prT b 0)) (fa : Fit k 0 a) (fb : Fit k 0 b) : CExp L (k + 1) (.mk 8 0 s [a, b] p) (prT (.mk 8 0 s [a, b] p) 0) := fun i r u hi hr hs hu n1 n2 n3 n4 n5 => by
  have hbody : prT (.mk 8 0 s [a, b] p) 0 = [108, 101, 116] ++ 32 :: (s ++ (32 :: 61 :: 32 :: (prT a 0 ++ 59 :: 32 :: prT b 0))) := by
    rw [prT_mk, if_neg (by omega)]; simp [bodyT]
  rw [hbody] at hs
  obtain ⟨ht, hd⟩ := own_at (r := r) (w := [108, 101, 116]) (x := s ++ (32 :: 61 :: 32 :: (prT a 0 ++ 59 :: 32 :: (prT b 0 ++ u)))) (by rw [hs]; simp) (by simp [ownW])
  have e0 : isT L i [108, 101, 116] = true := by rw [isT_at hr]; unfold isS; rw [ht]; rfl
  obtain ⟨q1, q2, -, -⟩ := name_read (L := L) (i := nxtN L i) (nxt_at hr) (s := s) (u := 32 :: 61 :: 32 :: (prT a 0 ++ 59 :: 32 :: (prT b 0 ++ u))) (by rw [hd, strip_blank]; exact ((Hd.join h.all h.ne).app _).strip) h rfl
  have m1 := must_at (s := [61]) q2 rfl
  obtain ⟨a', j, g1, g2, g3, g4⟩ := ha (nxtN L (nxtN L (nxtN L i))) _ (59 :: 32 :: (prT b 0 ++ u)) (nxtN_le L _ (nxtN_le L _ (nxtN_le L _ hi))) ((nxt_at q2).trans (show _ = 32 :: (prT a 0 ++ 59 :: 32 :: (prT b 0 ++ u)) from rfl)) (by rw [strip_blank]; exact hd_at fa _) (.of rfl rfl) rfl rfl rfl rfl rfl
  have m2 := must_at (s := [59]) g3 rfl
  obtain ⟨b', m, f1, f2, f3, f4⟩ := hb (nxtN L j) _ u (nxtN_le L _ g4) ((nxt_at g3).trans (show _ = 32 :: (prT b 0 ++ u) from rfl)) (by rw [strip_blank]; exact hd_at fb _) hu n1 n2 n3 n4 n5
  refine ⟨.mk 8 0 s [a', b'] (tokN L (nxtN L i)).pos, m, ?_, by rw [erT_mk, erT_mk]; simp [g2, f2], f3, f4⟩
  change exprT L (k + 1) _ _ _ i = _
  unfold exprT
  rw [e0, if_pos rfl, enter_at]
  simp only [Ps.bind]
  rw [q1]; simp only
  rw [m1]; simp only
  rw [g1]; simp only
  rw [m2]; simp only
  rw [f1]
theorem need_exp {k p : Nat} {a b c : Tr} (ha : CSum L k a (prT a 2)) (hb : CSum L k b (prT b 2)) (hc : CExp L k c (prT c 0)) (fa : Fit k 2 a) (fb : Fit k 2 b) (fc : Fit k 0 c) : CExp L (k + 1) (.mk 9 0 [] [a, b, c] p) (prT (.mk 9 0 [] [a, b, c] p) 0) := fun i r u hi hr hs hu n1 n2 n3 n4 n5 => by
  have hbody : prT (.mk 9 0 [] [a, b, c] p) 0 = [110, 101, 101, 100] ++ 32 :: (prT a 2 ++ 32 :: 61 :: 61 :: 32 :: (prT b 2 ++ 59 :: 32 :: prT c 0)) := by
    rw [prT_mk, if_neg (by omega)]; simp [bodyT]
  rw [hbody] at hs
  obtain ⟨ht, hd⟩ := own_at (r := r) (w := [110, 101, 101, 100]) (x := prT a 2 ++ 32 :: 61 :: 61 :: 32 :: (prT b 2 ++ 59 :: 32 :: (prT c 0 ++ u))) (by rw [hs]; simp) (by simp [ownW])
  have e1 : isT L i [108, 101, 116] = false := by rw [isT_at hr]; unfold isS; rw [ht]; rfl
  have e0 : isT L i [110, 101, 101, 100] = true := by rw [isT_at hr]; unfold isS; rw [ht]; rfl
  obtain ⟨a', j, g1, g2, g3, g4⟩ := sum_end ha (nxtN_le L _ hi) ((nxt_at hr).trans hd) (u := 32 :: 61 :: 61 :: 32 :: (prT b 2 ++ 59 :: 32 :: (prT c 0 ++ u))) (by rw [strip_blank]; exact hd_at fa _) (.of rfl rfl) rfl rfl rfl rfl
  have m1 := must_at (s := [61, 61]) g3 rfl
  obtain ⟨b', m, f1, f2, f3, f4⟩ := sum_end hb (nxtN_le L _ g4) ((nxt_at g3).trans (show _ = 32 :: (prT b 2 ++ 59 :: 32 :: (prT c 0 ++ u)) from rfl)) (u := 59 :: 32 :: (prT c 0 ++ u)) (by rw [strip_blank]; exact hd_at fb _) (.of rfl rfl) rfl rfl rfl rfl
  have m2 := must_at (s := [59]) f3 rfl
  obtain ⟨c', q, p1, p2, p3, p4⟩ := hc (nxtN L m) _ u (nxtN_le L _ f4) ((nxt_at f3).trans (show _ = 32 :: (prT c 0 ++ u) from rfl)) (by rw [strip_blank]; exact hd_at fc _) hu n1 n2 n3 n4 n5
  refine ⟨.mk 9 0 [] [a', b', c'] (tokN L i).pos, q, ?_, by rw [erT_mk, erT_mk]; simp [g2, f2, p2], p3, p4⟩
  change exprT L (k + 1) (sumT L (readT L (k + 1)).1) _ _ i = _
  unfold exprT
  rw [e1, if_neg (by simp), e0, if_pos rfl, enter_at]
  simp only [Ps.bind]
  rw [g1]; simp only
  rw [m1]; simp only
  rw [f1]; simp only
  rw [m2]; simp only
  rw [p1]
theorem if_exp {k p : Nat} {a b c : Tr} (ha : CExp L k a (prT a 0)) (hb : CExp L k b (prT b 0)) (hc : CExp L k c (prT c 0)) (fa : Fit k 0 a) (fb : Fit k 0 b) (fc : Fit k 0 c) : CExp L (k + 1) (.mk 10 0 [] [a, b, c] p) (prT (.mk 10 0 [] [a, b, c] p) 0) := fun i r u hi hr hs hu n1 n2 n3 n4 n5 => by
  have hbody : prT (.mk 10 0 [] [a, b, c] p) 0 = [105, 102] ++ 32 :: (prT a 0 ++ 32 :: 116 :: 104 :: 101 :: 110 :: 32 :: (prT b 0 ++ 32 :: 101 :: 108 :: 115 :: 101 :: 32 :: prT c 0)) := by
    rw [prT_mk, if_neg (by omega)]; simp [bodyT]
  rw [hbody] at hs
  obtain ⟨ht, hd⟩ := own_at (r := r) (w := [105, 102]) (x := prT a 0 ++ 32 :: 116 :: 104 :: 101 :: 110 :: 32 :: (prT b 0 ++ 32 :: 101 :: 108 :: 115 :: 101 :: 32 :: (prT c 0 ++ u))) (by rw [hs]; simp) (by simp [ownW])
  have e1 : isT L i [108, 101, 116] = false := by rw [isT_at hr]; unfold isS; rw [ht]; rfl
  have e2 : isT L i [110, 101, 101, 100] = false := by rw [isT_at hr]; unfold isS; rw [ht]; rfl
  have e0 : isT L i [105, 102] = true := by rw [isT_at hr]; unfold isS; rw [ht]; rfl
  obtain ⟨a', j, g1, g2, g3, g4⟩ := ha (nxtN L i) _ (32 :: 116 :: 104 :: 101 :: 110 :: 32 :: (prT b 0 ++ 32 :: 101 :: 108 :: 115 :: 101 :: 32 :: (prT c 0 ++ u))) (nxtN_le L _ hi) ((nxt_at hr).trans hd) (by rw [strip_blank]; exact hd_at fa _) (.of rfl rfl) rfl rfl rfl rfl rfl
  have m1 := must_at (s := [116, 104, 101, 110]) g3 rfl
  obtain ⟨b', m, f1, f2, f3, f4⟩ := hb (nxtN L j) _ (32 :: 101 :: 108 :: 115 :: 101 :: 32 :: (prT c 0 ++ u)) (nxtN_le L _ g4) ((nxt_at g3).trans (show _ = 32 :: (prT b 0 ++ 32 :: 101 :: 108 :: 115 :: 101 :: 32 :: (prT c 0 ++ u)) from rfl)) (by rw [strip_blank]; exact hd_at fb _) (.of rfl rfl) rfl rfl rfl rfl rfl
  have m2 := must_at (s := [101, 108, 115, 101]) f3 rfl
  obtain ⟨c', q, p1, p2, p3, p4⟩ := hc (nxtN L m) _ u (nxtN_le L _ f4) ((nxt_at f3).trans (show _ = 32 :: (prT c 0 ++ u) from rfl)) (by rw [strip_blank]; exact hd_at fc _) hu n1 n2 n3 n4 n5
  refine ⟨.mk 10 0 [] [a', b', c'] (tokN L i).pos, q, ?_, by rw [erT_mk, erT_mk]; simp [g2, f2, p2], p3, p4⟩
  change exprT L (k + 1) _ _ _ i = _
  unfold exprT
  rw [e1, if_neg (by simp), e2, if_neg (by simp), e0, if_pos rfl, enter_at]
  simp only [Ps.bind]
  rw [g1]; simp only
  rw [m1]; simp only
  rw [f1]; simp only
  rw [m2]; simp only
  rw [p1]
theorem more_read {α β : Type} {one : Nat → Ps α} (hm : Mono L one) (wr : β → List UInt8) {Q : α → β → Prop} (ws : List β) (u : List UInt8)
    (h1 : ∀ w ∈ ws, Hd (wr w) ∧ ∀ i r v, i ≤ L.length → L.drop i = r → stripS r = wr w ++ v → (∃ x, v = 44 :: 32 :: x) ∨ v = 41 :: u → ∃ x j, one i = .ok x j ∧ Q x w ∧ L.drop j = v ∧ j ≤ L.length) :
    ∀ acc i, i ≤ L.length → L.drop i = (ws.flatMap fun w => 44 :: 32 :: wr w) ++ 41 :: u → ∃ xs j, moreT L one (L.length + 1) acc i = .ok (acc ++ xs) j ∧ Each Q xs ws ∧ L.drop j = u ∧ j ≤ L.length := by
  induction ws with
  | nil =>
    intro acc i hi hr
    refine ⟨[], nxtN L i, ?_, .nil, (nxt_at hr).trans rfl, nxtN_le L i hi⟩
    rw [moreT, isT_at hr, show isS (([] : List β).flatMap (fun w => 44 :: 32 :: wr w) ++ 41 :: u) [44] = false from rfl, if_neg (by simp), must_at hr rfl]
    simp [Ps.bind]
  | cons w ws ih =>
    intro acc i hi hr
    obtain ⟨hw, hone⟩ := h1 w (by simp)
    have hr2 : L.drop i = 44 :: 32 :: (wr w ++ ((ws.flatMap fun w => 44 :: 32 :: wr w) ++ 41 :: u)) := by rw [hr]; simp
    have e44 : isT L i [44] = true := by rw [isT_at hr2]; rfl
    obtain ⟨x, j, g1, g2, g3, g4⟩ := hone (nxtN L i) _ ((ws.flatMap fun w => 44 :: 32 :: wr w) ++ 41 :: u) (nxtN_le L i hi) ((nxt_at hr2).trans (show _ = 32 :: (wr w ++ ((ws.flatMap fun w => 44 :: 32 :: wr w) ++ 41 :: u)) from rfl)) (by rw [strip_blank]; exact (hw.app _).strip) (by
      cases ws with
      | nil => exact .inr rfl
      | cons a r => exact .inl ⟨wr a ++ ((r.flatMap fun w => 44 :: 32 :: wr w) ++ 41 :: u), by simp⟩)
    obtain ⟨xs, m, f1, f2, f3, f4⟩ := ih (fun w hw => h1 w (by simp [hw])) (acc ++ [x]) j g4 g3
    refine ⟨x :: xs, m, ?_, .cons g2 f2, f3, f4⟩
    have hg := isT_gt e44
    have hg2 := nxtN_le L i hi
    obtain ⟨a1, a2⟩ := hm _ _ _ hg2 g1
    rw [moreT, e44, if_pos rfl, g1]
    show moreT L one L.length (acc ++ [x]) j = _
    rw [more_fuel hm L.length (L.length + 1) _ j a2 (by omega) (by omega), f1]
    simp
theorem comma_flat (a : List UInt8) (ws : List (List UInt8)) : commaT (a :: ws) = a ++ ws.flatMap fun w => 44 :: 32 :: w := by
  induction ws generalizing a with
  | nil => simp [commaT]
  | cons b r ih => rw [commaT, ih]; simp
theorem list_read {α β : Type} {one : Nat → Ps α} (hm : Mono L one) (wr : β → List UInt8) {Q : α → β → Prop} (ws : List β) (u : List UInt8) (k : Nat)
    (h1 : ∀ w ∈ ws, Hd (wr w) ∧ ∀ i r v, i ≤ L.length → L.drop i = r → stripS r = wr w ++ v → (∃ x, v = 44 :: 32 :: x) ∨ v = 41 :: u → ∃ x j, one i = .ok x j ∧ Q x w ∧ L.drop j = v ∧ j ≤ L.length)
    (h2 : ∀ w ∈ ws, (wr w).headD 0 ≠ 41) (i : Nat) (hi : i ≤ L.length) (hr : L.drop i = 40 :: (commaT (ws.map wr) ++ 41 :: u)) : ∃ xs j, listT L (k + 1) one i = .ok xs j ∧ Each Q xs ws ∧ L.drop j = u ∧ j ≤ L.length := by
  have e40 : isT L i [40] = true := by rw [isT_at hr]; rfl
  have hn : L.drop (nxtN L i) = commaT (ws.map wr) ++ 41 :: u := (nxt_at hr).trans rfl
  have hle := nxtN_le L i hi
  unfold listT
  rw [e40, if_pos rfl, enter_at]
  simp only [Ps.bind]
  cases ws with
  | nil =>
    refine ⟨[], nxtN L (nxtN L i), ?_, .nil, (nxt_at hn).trans rfl, nxtN_le L _ hle⟩
    rw [isT_at hn, show isS (commaT (([] : List β).map wr) ++ 41 :: u) [41] = true from rfl, if_pos rfl]
  | cons w ws =>
    rw [List.map_cons, comma_flat, List.flatMap_map] at hn
    obtain ⟨hw, hone⟩ := h1 w (by simp)
    have hn2 : L.drop (nxtN L i) = wr w ++ ((ws.flatMap fun w => 44 :: 32 :: wr w) ++ 41 :: u) := by rw [hn]; simp
    have hst : stripS (wr w ++ ((ws.flatMap fun w => 44 :: 32 :: wr w) ++ 41 :: u)) = wr w ++ ((ws.flatMap fun w => 44 :: 32 :: wr w) ++ 41 :: u) := (hw.app _).strip
    have e41 : isT L (nxtN L i) [41] = false := by
      rw [isT_at hn2]
      unfold isS
      rw [Bool.and_eq_false_iff]; right
      apply decide_eq_false
      intro e
      obtain ⟨c, t, ew⟩ := List.exists_cons_of_ne_nil hw.2
      have hc := h2 w (by simp)
      rw [ew] at hc hst
      unfold tkS at e
      rw [ew, hst] at e
      unfold tokL at e
      simp only [List.cons_append] at e
      split at e
      · rename_i g
        rw [List.takeWhile_cons, if_pos g] at e
        simp only at e
        exact hc (List.cons.inj e).1
      · split at e
        · simp at e
        · split at e <;> exact hc (List.cons.inj e).1
    obtain ⟨x, j, g1, g2, g3, g4⟩ := hone (nxtN L i) _ ((ws.flatMap fun w => 44 :: 32 :: wr w) ++ 41 :: u) hle hn2 hst (by
      cases ws with
      | nil => exact .inr rfl
      | cons a r => exact .inl ⟨wr a ++ ((r.flatMap fun w => 44 :: 32 :: wr w) ++ 41 :: u), by simp⟩)
    obtain ⟨xs, m, f1, f2, f3, f4⟩ := more_read hm wr (Q := Q) ws u (fun w hw => h1 w (by simp [hw])) [x] j g4 g3
    refine ⟨x :: xs, m, ?_, .cons g2 f2, f3, f4⟩
    rw [e41, if_neg (by simp), g1]
    exact f1
end
end Go.Att
end
section
namespace Go.Att
open Go.RowKit
def pcells (kd : Nat) (n : Int) (s : List UInt8) (kv : Value) (p : Nat) : List Value := [.int .i64 kd, .int .i64 n, strV s, kv, .int .i64 p]
def trAt (T E : TypeId) : Tr → Nat → Nat → World → Value → Prop := foldT fun kd n s ks p lo hi w v =>
  ∃ q kv vs, v = .pointer (some ⟨q, 0, none⟩) ∧ lo ≤ q ∧ q < hi ∧ BlkOf w q (pcells kd n s kv p) T ∧ w.ownsRow lo E 1 kv ks.length vs ∧ (∀ A, kv.ownBlock = some A → A < hi) ∧ Each (fun v f => f lo hi w v) vs ks
section
variable {α β γ : Type}
theorem each_map_iff {Q : α → γ → Prop} {g : β → γ} {xs : List α} {ks : List β} : Each Q xs (ks.map g) ↔ Each (fun x k => Q x (g k)) xs ks := by
  constructor
  · intro h
    induction ks generalizing xs with
    | nil => cases h; exact .nil
    | cons k ks ih => cases h with | cons h1 h2 => exact .cons h1 (ih h2)
  · intro h
    induction h with
    | nil => exact .nil
    | cons h _ ih => exact .cons h ih
theorem Each.imp {Q R : α → β → Prop} {xs : List α} {ws : List β} (h : Each Q xs ws) (hi : ∀ x w, w ∈ ws → Q x w → R x w) : Each R xs ws := by
  induction h with
  | nil => exact .nil
  | cons h1 h2 ih => exact .cons (hi _ _ (by simp) h1) (ih fun x w hw => hi x w (by simp [hw]))
theorem Each.app {Q : α → β → Prop} {xs ys : List α} {ws us : List β} (h : Each Q xs ws) (h2 : Each Q ys us) : Each Q (xs ++ ys) (ws ++ us) := by
  induction h with
  | nil => exact h2
  | cons h1 _ ih => exact .cons h1 ih
theorem Each.len {Q : α → β → Prop} {xs : List α} {ws : List β} (h : Each Q xs ws) : xs.length = ws.length := by
  induction h with
  | nil => rfl
  | cons h _ ih => simp [ih]
end
section
variable {T E : TypeId} {lo hi : Nat} {w w' : World} {v : Value} {t : Tr}
theorem trAt_mk {kd : Nat} {n : Int} {s : List UInt8} {ks : List Tr} {p : Nat} : trAt T E (.mk kd n s ks p) lo hi w v ↔ ∃ q kv vs, v = .pointer (some ⟨q, 0, none⟩) ∧ lo ≤ q ∧ q < hi ∧ BlkOf w q (pcells kd n s kv p) T ∧ w.ownsRow lo E 1 kv ks.length vs ∧ (∀ A, kv.ownBlock = some A → A < hi) ∧ Each (fun v t => trAt T E t lo hi w v) vs ks := by
  unfold trAt
  rw [foldT_mk]
  constructor
  · rintro ⟨q, kv, vs, h1, h2, h3, h4, h5, h6, h7⟩
    exact ⟨q, kv, vs, h1, h2, h3, h4, by rw [List.length_map] at h5; exact h5, h6, each_map_iff.mp h7⟩
  · rintro ⟨q, kv, vs, h1, h2, h3, h4, h5, h6, h7⟩
    exact ⟨q, kv, vs, h1, h2, h3, h4, by rw [List.length_map]; exact h5, h6, each_map_iff.mpr h7⟩
theorem own_kept {B e sz n : Nat} {xs : List Value} (h : w.ownsRow B e sz v n xs) {row : Option Nat} (hg : w.grownBy w' row) (hne : ∀ A, v.ownBlock = some A → some A ≠ row) : w'.ownsRow B e sz v n xs := by
  refine ⟨h.1, ?_⟩
  rcases h.2 with h2 | ⟨g, cap, cur, hv, hbg, hgg, hr⟩
  · exact .inl h2
  · subst hv
    exact .inr ⟨g, cap, cur, rfl, hbg, by rw [hg.block g (Array.getElem?_eq_some_iff.1 hgg).1 (hne g rfl)]; exact hgg, hr⟩
theorem own_from {B B' e sz n : Nat} {xs : List Value} (h : w.ownsRow B e sz v n xs) (hb : B' ≤ B) : w.ownsRow B' e sz v n xs := by
  refine ⟨h.1, ?_⟩
  rcases h.2 with h2 | ⟨g, cap, cur, hv, hbg, hr⟩
  · exact .inl h2
  · exact .inr ⟨g, cap, cur, hv, Nat.le_trans hb hbg, hr⟩
theorem own_blk {B e sz n : Nat} {xs : List Value} (h : w.ownsRow B e sz v n xs) {A : Nat} (ha : v.ownBlock = some A) : B ≤ A ∧ A < w.heap.size := by
  rcases h.2 with ⟨rfl, _⟩ | ⟨g, cap, cur, rfl, hbg, hgg, hr⟩
  · cases ha
  · cases ha; exact ⟨hbg, (Array.getElem?_eq_some_iff.1 hgg).1⟩
theorem trAt.kept (h : trAt T E t lo hi w v) {row : Option Nat} (hg : w.grownBy w' row) (hr : ∀ r, row = some r → r < lo ∨ hi ≤ r) : trAt T E t lo hi w' v := by
  induction t using Tr.ind generalizing v with
  | h kd n s ks p ih =>
    obtain ⟨q, kv, vs, h1, h2, h3, h4, h5, h6, h7⟩ := trAt_mk.mp h
    refine trAt_mk.mpr ⟨q, kv, vs, h1, h2, h3, h4.grown hg (fun e => by rcases hr q e.symm with e | e <;> omega), own_kept h5 hg (fun A hA e => ?_), h6, h7.imp fun x t ht hx => ih t ht hx⟩
    have := (own_blk h5 hA).1
    have := h6 A hA
    rcases hr A e.symm with e | e <;> omega
theorem trAt.ext (h : trAt T E t lo hi w v) (hx : Ext w w') : trAt T E t lo hi w' v := h.kept (hx.grownBy none) (fun r e => by cases e)
theorem trAt.mono (h : trAt T E t lo hi w v) {lo' hi' : Nat} (h1 : lo' ≤ lo) (h2 : hi ≤ hi') : trAt T E t lo' hi' w v := by
  induction t using Tr.ind generalizing v with
  | h kd n s ks p ih =>
    obtain ⟨q, kv, vs, a1, a2, a3, a4, a5, a6, a7⟩ := trAt_mk.mp h
    exact trAt_mk.mpr ⟨q, kv, vs, a1, by omega, by omega, a4, own_from a5 h1, fun A hA => by have := a6 A hA; omega, a7.imp fun x t ht hx => ih t ht hx⟩
theorem trAt.ptr (h : trAt T E t lo hi w v) : ∃ q, v = .pointer (some ⟨q, 0, none⟩) ∧ lo ≤ q ∧ q < hi := by
  cases t with
  | mk kd n s ks p => obtain ⟨q, kv, vs, a1, a2, a3, _⟩ := trAt_mk.mp h; exact ⟨q, a1, a2, a3⟩
structure KidsIn (T E : TypeId) (lo : Nat) (w : World) (kv : Value) (vs : List Value) (ks : List Tr) : Prop where
  own : w.ownsRow lo E 1 kv ks.length vs
  each : Each (fun v t => ∃ l h, lo ≤ l ∧ h ≤ w.heap.size ∧ trAt T E t l h w v ∧ ∀ A, kv.ownBlock = some A → A < l ∨ h ≤ A) vs ks
theorem KidsIn.nil (w : World) : KidsIn T E lo w (.slice none 0 0) [] [] := ⟨World.ownsRow_nil w lo E 1, .nil⟩
variable {kv kv' : Value} {vs : List Value} {ks : List Tr}
theorem KidsIn.kept (h : KidsIn T E lo w kv vs ks) {row : Option Nat} (hg : w.grownBy w' row) (hr : ∀ r, row = some r → r < lo) : KidsIn T E lo w' kv vs ks :=
  ⟨own_kept h.own hg (fun A hA e => by have := (own_blk h.own hA).1; have := hr A e.symm; omega), h.each.imp fun x t _ ⟨l, g, a1, a2, a3, a4⟩ => ⟨l, g, a1, Nat.le_trans a2 hg.size, a3.kept hg (fun r e => by have := hr r e; omega), a4⟩⟩
theorem KidsIn.app (h : KidsIn T E lo w kv vs ks) {l g : Nat} (hl : lo ≤ l) (hg0 : g ≤ w.heap.size) (ht : trAt T E t l g w v) (hA : ∀ A, kv.ownBlock = some A → A < l ∨ g ≤ A) (ho : w'.ownsRow lo E 1 kv' (ks.length + 1) (vs ++ [v])) (hg : w.grownBy w' kv.ownBlock) (hm : ∀ A, kv'.ownBlock = some A → kv.ownBlock = some A ∨ w.heap.size ≤ A) : KidsIn T E lo w' kv' (vs ++ [v]) (ks ++ [t]) := by
  have e1 : Each (fun v t => ∃ l h, lo ≤ l ∧ h ≤ w'.heap.size ∧ trAt T E t l h w' v ∧ ∀ A, kv'.ownBlock = some A → A < l ∨ h ≤ A) vs ks := h.each.imp fun x t _ ⟨l, g, a1, a2, a3, a4⟩ => ⟨l, g, a1, Nat.le_trans a2 hg.size, a3.kept hg (fun r e => a4 r e), fun A hA => by
      rcases hm A hA with e | e
      · exact a4 A e
      · exact .inr (by omega)⟩
  have e2 : Each (fun v t => ∃ l h, lo ≤ l ∧ h ≤ w'.heap.size ∧ trAt T E t l h w' v ∧ ∀ A, kv'.ownBlock = some A → A < l ∨ h ≤ A) [v] [t] := .cons ⟨l, g, hl, Nat.le_trans hg0 hg.size, ht.kept hg (fun r e => hA r e), fun A hA' => by
      rcases hm A hA' with e | e
      · exact hA A e
      · exact .inr (by omega)⟩ .nil
  exact ⟨by rw [List.length_append]; exact ho, e1.app e2⟩
theorem KidsIn.done (h : KidsIn T E lo w kv vs ks) {q kd p : Nat} {n : Int} {s : List UInt8} {lo' : Nat} (hq : lo' ≤ q) (hl : lo' ≤ lo) (hb : BlkOf w q (pcells kd n s kv p) T) : trAt T E (.mk kd n s ks p) lo' w.heap.size w (.pointer (some ⟨q, 0, none⟩)) :=
  trAt_mk.mpr ⟨q, kv, vs, rfl, hq, hb.lt, hb, own_from h.own hl, fun A hA => (own_blk h.own hA).2, h.each.imp fun x t _ ⟨l, g, a1, a2, a3, _⟩ => a3.mono (by omega) a2⟩
end
end Go.Att
end
