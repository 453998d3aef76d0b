/- Programs as text, in plain words: what is written once more is read, and is written so again. No program in sight. -/
import Derived.Test.YtgnomhbbbcfehaaGreatDoorZx4
namespace Go.Att
section
variable {L : List UInt8}
theorem each_map {α β γ : Type} {f : α → γ} {g : β → γ} {xs : List α} {ws : List β} (h : Each (fun x w => f x = g w) xs ws) : xs.map f = ws.map g := by
  induction h with
  | nil => rfl
  | cons h _ ih => simp [h, ih]
theorem hd_not41 {k : Nat} {t : Tr} : ∀ least, Fit k least t → (prT t least).headD 0 ≠ 41 := by
  suffices H : ∀ t : Tr, ∀ k, FitB k t → (prT t 0).headD 0 ≠ 41 by
    intro least hf
    cases hf with
    | here h1 h2 => rw [prT_here t _ h1]; exact H _ _ h2
    | inn h1 h2 => rw [prT_par t _ h1]; show (40 : UInt8) ≠ 41; decide
  have up : ∀ {t : Tr}, (∀ k, FitB k t → (prT t 0).headD 0 ≠ 41) → ∀ {k least : Nat}, Fit k least t → ∀ u, (prT t least ++ u).headD 0 ≠ 41 := by
    intro t h k least hf u
    have h0 : prT t least ≠ [] := (hd_fit (hd_prT t) hf).2
    have h1 : (prT t least).headD 0 ≠ 41 := by
      cases hf with
      | here h1 h2 => rw [prT_here t _ h1]; exact h _ h2
      | inn h1 h2 => rw [prT_par t _ h1]; show (40 : UInt8) ≠ 41; decide
    obtain ⟨c, r, e⟩ := List.exists_cons_of_ne_nil h0
    rw [e] at h1 ⊢
    exact h1
  have wd : ∀ {w : List UInt8}, (∀ c ∈ w, joinC c = true) → w ≠ [] → ∀ u, (w ++ u).headD 0 ≠ 41 := by
    intro w hj hw u
    obtain ⟨c, r, rfl⟩ := List.exists_cons_of_ne_nil hw
    intro e
    have h := hj c (by simp)
    rw [show c = 41 from e] at h
    cases h
  intro t
  induction t using Tr.ind with
  | h kd n s ks p ih =>
    intro k hf
    rw [prT_mk, if_neg (by omega)]
    cases hf with
    | num h0 h1 =>
      have := wd (itoa_read n h0 h1).2.2.1 (itoa_read n h0 h1).2.2.2 []
      rw [List.append_nil] at this; exact this
    | name h => have := wd h.all h.ne []; rw [List.append_nil] at this; exact this
    | bin hk ha hb =>
      rcases hk with rfl | rfl | rfl | rfl
      all_goals
        simp only [bodyT, List.append_assoc]
        exact up (ih _ (by simp)) ha _
    | same ha hb =>
      simp only [bodyT, List.append_assoc]
      exact up (ih _ (by simp)) ha _
    | neg ha => show (45 : UInt8) ≠ 41; decide
    | letB h ha hb => show (108 : UInt8) ≠ 41; decide
    | need ha hb hc => show (110 : UInt8) ≠ 41; decide
    | ifB ha hb hc => show (105 : UInt8) ≠ 41; decide
    | call h hs => exact wd h.all h.ne _
theorem call_part {k p : Nat} {s : List UInt8} {ks : List Tr} (h : NameOk s) (hs : ∀ a ∈ ks, Fit k 0 a ∧ CExp L k a (prT a 0)) : CPart L (k + 1) (.mk 11 0 s ks p) (prT (.mk 11 0 s ks p) 0) := fun i r u hi hr hst hu => by
  have hbody : prT (.mk 11 0 s ks p) 0 = s ++ 40 :: (commaT (ks.map fun t => prT t 0) ++ [41]) := by
    rw [prT_mk, if_neg (by omega)]; simp [bodyT, Function.comp_def]
  rw [hbody] at hst
  obtain ⟨q1, q2, q3, q4⟩ := name_read (u := 40 :: (commaT (ks.map fun t => prT t 0) ++ 41 :: u)) hr (by rw [hst]; simp) h rfl
  have hle := nxtN_le L i hi
  obtain ⟨xs, j, g1, g2, g3, g4⟩ := list_read (L := L) (one := (readT L (k + 1)).2) (mono_read (k + 1)).2 (fun t => prT t 0) (Q := fun x w => erT x = erT w) ks u k (fun w hw => by
    obtain ⟨f1, f2⟩ := hs w hw
    refine ⟨hd_fit (hd_prT w) f1, fun i r v hi hr hst hv => ?_⟩
    rcases hv with ⟨x, rfl⟩ | rfl
    · exact f2 i r _ hi hr hst (.of rfl rfl) rfl rfl rfl rfl rfl
    · exact f2 i r _ hi hr hst (.of rfl rfl) rfl rfl rfl rfl rfl) (fun w hw => hd_not41 0 (hs w hw).1) (nxtN L i) hle q2
  refine ⟨.mk 11 0 s xs (tokN L i).pos, j, ?_, by rw [erT_mk, erT_mk, each_map g2], g3, g4⟩
  change partT L (k + 1) _ _ i = _
  unfold partT
  rw [if_neg (by rw [q3]; decide), q4, not_sign h 40 rfl, if_neg (by simp), q4, not_sign h 45 rfl, if_neg (by simp), q1]
  simp only [Ps.bind]
  rw [isT_at q2, show isS (40 :: (commaT (ks.map fun t => prT t 0) ++ 41 :: u)) [40] = true from rfl, if_pos rfl, g1]
def Reads (L : List UInt8) (t : Tr) : Prop := ∀ k least, Fit k least t → (least = 4 → CPart L k t (prT t least)) ∧ (least = 3 → CProd L k t (prT t least)) ∧ (least = 2 → CSum L k t (prT t least)) ∧ (least = 0 → CExp L k t (prT t least))
structure Bare (L : List UInt8) (k : Nat) (t : Tr) : Prop where
  e : CExp L k t (prT t 0)
  s : 2 ≤ lvT t.kind → CSum L k t (prT t 0)
  p : 3 ≤ lvT t.kind → CProd L k t (prT t 0)
  t : 4 ≤ lvT t.kind → CPart L k t (prT t 0)
theorem Bare.part {k : Nat} {t : Tr} (h : CPart L k t (prT t 0)) : Bare L k t :=
  ⟨exp_of_sum (sum_of_prod (prod_of_part h)), fun _ => sum_of_prod (prod_of_part h), fun _ => prod_of_part h, fun _ => h⟩
theorem reads_bare {t : Tr} (hb : ∀ k, FitB k t → Bare L k t) : Reads L t := fun k least hf => by
  cases hf with
  | here h1 h2 =>
    rw [prT_here t _ h1]
    have h := hb _ h2
    exact ⟨fun e => h.t (by omega), fun e => h.p (by omega), fun e => h.s (by omega), fun e => h.e⟩
  | inn h1 h2 =>
    rw [prT_par t _ h1]
    have h := part_of_exp (hb _ h2).e (hd_prT t _ h2)
    exact ⟨fun _ => h, fun _ => prod_of_part h, fun _ => sum_of_prod (prod_of_part h), fun _ => exp_of_sum (sum_of_prod (prod_of_part h))⟩
theorem reads_all (L : List UInt8) (t : Tr) : Reads L t := by
  induction t using Tr.ind with
  | h kd n s ks p ih =>
    refine reads_bare fun k hf => ?_
    cases hf with
    | num h0 h1 => exact .part (num_part h0 h1)
    | name h => exact .part (name_part h)
    | bin hk ha hb =>
      rename_i a b
      have ra := ih a (by simp) _ _ ha
      have rb := ih b (by simp) _ _ hb
      rcases hk with rfl | rfl | rfl | rfl
      · have h := bin_sum (p := p) (.inl rfl) (ra.2.2.1 rfl) (rb.2.1 rfl) hb
        exact ⟨exp_of_sum h, fun _ => h, fun e => absurd e (by show ¬ 3 ≤ lvT 2; decide), fun e => absurd e (by show ¬ 4 ≤ lvT 2; decide)⟩
      · have h := bin_sum (p := p) (.inr rfl) (ra.2.2.1 rfl) (rb.2.1 rfl) hb
        exact ⟨exp_of_sum h, fun _ => h, fun e => absurd e (by show ¬ 3 ≤ lvT 3; decide), fun e => absurd e (by show ¬ 4 ≤ lvT 3; decide)⟩
      · have h := bin_prod (p := p) (.inl rfl) (ra.2.1 rfl) (rb.1 rfl) hb
        exact ⟨exp_of_sum (sum_of_prod h), fun _ => sum_of_prod h, fun _ => h, fun e => absurd e (by show ¬ 4 ≤ lvT 4; decide)⟩
      · have h := bin_prod (p := p) (.inr rfl) (ra.2.1 rfl) (rb.1 rfl) hb
        exact ⟨exp_of_sum (sum_of_prod h), fun _ => sum_of_prod h, fun _ => h, fun e => absurd e (by show ¬ 4 ≤ lvT 5; decide)⟩
    | same ha hb =>
      rename_i a b
      have h := same_exp (p := p) ((ih a (by simp) _ _ ha).2.2.1 rfl) ((ih b (by simp) _ _ hb).2.2.1 rfl) hb
      exact ⟨h, fun e => absurd e (by show ¬ 2 ≤ lvT 6; decide), fun e => absurd e (by show ¬ 3 ≤ lvT 6; decide), fun e => absurd e (by show ¬ 4 ≤ lvT 6; decide)⟩
    | neg ha =>
      rename_i k a
      exact .part (neg_part ((ih a (by simp) _ _ ha).1 rfl) ha)
    | letB h ha hb =>
      rename_i k a b
      have h := let_exp (p := p) h ((ih a (by simp) _ _ ha).2.2.2 rfl) ((ih b (by simp) _ _ hb).2.2.2 rfl) ha hb
      exact ⟨h, fun e => absurd e (by show ¬ 2 ≤ lvT 8; decide), fun e => absurd e (by show ¬ 3 ≤ lvT 8; decide), fun e => absurd e (by show ¬ 4 ≤ lvT 8; decide)⟩
    | need ha hb hc =>
      rename_i k a b c
      have h := need_exp (p := p) ((ih a (by simp) _ _ ha).2.2.1 rfl) ((ih b (by simp) _ _ hb).2.2.1 rfl) ((ih c (by simp) _ _ hc).2.2.2 rfl) ha hb hc
      exact ⟨h, fun e => absurd e (by show ¬ 2 ≤ lvT 9; decide), fun e => absurd e (by show ¬ 3 ≤ lvT 9; decide), fun e => absurd e (by show ¬ 4 ≤ lvT 9; decide)⟩
    | ifB ha hb hc =>
      rename_i k a b c
      have h := if_exp (p := p) ((ih a (by simp) _ _ ha).2.2.2 rfl) ((ih b (by simp) _ _ hb).2.2.2 rfl) ((ih c (by simp) _ _ hc).2.2.2 rfl) ha hb hc
      exact ⟨h, fun e => absurd e (by show ¬ 2 ≤ lvT 10; decide), fun e => absurd e (by show ¬ 3 ≤ lvT 10; decide), fun e => absurd e (by show ¬ 4 ≤ lvT 10; decide)⟩
    | call h hs =>
      exact .part (call_part h fun a ha => ⟨hs a ha, (ih a ha _ _ (hs a ha)).2.2.2 rfl⟩)
structure FnOk (f : Fn) : Prop where
  name : NameOk f.name
  names : ∀ x ∈ f.names, NameOk x.1
  body : Fit 64 0 f.body
theorem fun_fit {i j : Nat} {f : Fn} (h : funT L i = .ok f j) : FnOk f := by
  unfold funT at h
  obtain ⟨_, m, e1, h⟩ := bind_ok.mp h
  obtain ⟨s, m, e2, h⟩ := bind_ok.mp h
  obtain ⟨ns, m, e3, h⟩ := bind_ok.mp h
  obtain ⟨_, m, e4, h⟩ := bind_ok.mp h
  obtain ⟨b, m, e5, h⟩ := bind_ok.mp h
  cases h
  obtain ⟨q, e, hf⟩ := (fits_read 65).2 _ _ _ e5
  cases e
  exact ⟨name_ok e2, (fits_list (Q := fun x : List UInt8 × Nat => NameOk x.1) (fun i x j h => name_ok h) e3).2, hf⟩
theorem funs_fit : ∀ n acc i fs j, (∀ f ∈ acc, FnOk f) → funsT L n acc i = .ok fs j → ∀ f ∈ fs, FnOk f
  | 0, _, _, _, _, _, h => by cases h
  | n + 1, acc, i, fs, j, ha, h => by
    rw [funsT] at h
    split at h
    · cases h; exact ha
    · obtain ⟨f, m, h1, h2⟩ := bind_ok.mp h
      refine funs_fit n _ _ _ _ (fun x hx => ?_) h2
      rcases List.mem_append.mp hx with e | e
      · exact ha x e
      · rw [List.mem_singleton.mp e]; exact fun_fit h1
structure SameF (f g : Fn) : Prop where
  name : f.name = g.name
  names : f.names.map (·.1) = g.names.map (·.1)
  body : erT f.body = erT g.body
theorem fun_read {f : Fn} (hf : FnOk f) {i : Nat} {r v : List UInt8} (hi : i ≤ L.length) (hr : L.drop i = r) (hs : stripS r = prF f ++ v) (hv : v = [] ∨ ∃ x, v = 102 :: 110 :: 32 :: x) : ∃ f' j, funT L i = .ok f' j ∧ SameF f' f ∧ L.drop j = 10 :: v ∧ j ≤ L.length := by
  have hbody : prF f ++ v = [102, 110] ++ 32 :: (f.name ++ 40 :: (commaT (f.names.map (·.1)) ++ 41 :: 32 :: 61 :: 32 :: (prT f.body 0 ++ 10 :: v))) := by simp [prF]
  rw [hbody] at hs
  obtain ⟨ht, hd⟩ := own_at hs (by simp [ownW])
  have m1 : mustT L i [102, 110] = .ok () (nxtN L i) := must_at hr (by unfold isS; rw [ht]; rfl)
  obtain ⟨q1, q2, -, -⟩ := name_read (L := L) (i := nxtN L i) (nxt_at hr) (s := f.name) (by rw [hd, strip_blank]; exact ((Hd.join hf.name.all hf.name.ne).app _).strip) hf.name rfl
  have l1 := nxtN_le L i hi
  have l2 := nxtN_le L _ l1
  obtain ⟨ns, j, g1, g2, g3, g4⟩ := list_read (L := L) (one := nameT L) mono_name (fun x : List UInt8 × Nat => x.1) (Q := fun x w => x.1 = w.1) f.names (32 :: 61 :: 32 :: (prT f.body 0 ++ 10 :: v)) 63 (fun w hw => by
    have hn := hf.names w hw
    refine ⟨.join hn.all hn.ne, fun i r v hi hr hst hv => ?_⟩
    obtain ⟨a1, a2, -, -⟩ := name_read hr hst hn (by rcases hv with ⟨x, rfl⟩ | rfl <;> rfl)
    exact ⟨_, _, a1, rfl, a2, nxtN_le L i hi⟩) (fun w hw => by
    have hn := hf.names w hw
    obtain ⟨c, t, e⟩ := List.exists_cons_of_ne_nil hn.ne
    rw [e]
    intro e2
    have h := hn.all c (by rw [e]; simp)
    rw [show c = 41 from e2] at h
    cases h) _ l2 q2
  have m2 := must_at (s := [61]) g3 rfl
  have nv : NJ (10 :: v) ∧ isS (10 :: v) [42] = false ∧ isS (10 :: v) [47] = false ∧ isS (10 :: v) [43] = false ∧ isS (10 :: v) [45] = false ∧ isS (10 :: v) [61, 61] = false := by
    rcases hv with rfl | ⟨x, rfl⟩
    · exact ⟨.of rfl rfl, rfl, rfl, rfl, rfl, rfl⟩
    · exact ⟨.of rfl rfl, rfl, rfl, rfl, rfl, rfl⟩
  obtain ⟨b', m, f1, f2, f3, f4⟩ := (reads_all L f.body 64 0 hf.body).2.2.2 rfl (nxtN L j) _ (10 :: v) (nxtN_le L _ g4) ((nxt_at g3).trans (show _ = 32 :: (prT f.body 0 ++ 10 :: v) from rfl)) (by rw [strip_blank]; exact hd_at hf.body _) nv.1 nv.2.1 nv.2.2.1 nv.2.2.2.1 nv.2.2.2.2.1 nv.2.2.2.2.2
  refine ⟨⟨f.name, (tokN L (nxtN L i)).pos, ns, b'⟩, m, ?_, ⟨rfl, each_map g2, f2⟩, f3, f4⟩
  unfold funT
  rw [m1]; simp only [Ps.bind]
  rw [q1]; simp only
  rw [g1]; simp only
  rw [m2]; simp only
  rw [f1]
theorem kind_at {i : Nat} {r : List UInt8} (hr : L.drop i = r) : ((tokN L i).kind = 0) = (stripS r = []) := by
  rw [(tokN_at hr).1]; exact propext (tokL_pos0 _ _)
theorem funs_read : ∀ (fs : List Fn), (∀ f ∈ fs, FnOk f) → ∀ acc i r, i ≤ L.length → L.drop i = r → stripS r = prP fs → ∃ gs j, funsT L (L.length + 1) acc i = .ok (acc ++ gs) j ∧ Each SameF gs fs
  | [], _, acc, i, r, hi, hr, hs => by
    refine ⟨[], i, ?_, .nil⟩
    rw [funsT, if_pos (by rw [kind_at hr, hs]; rfl)]
    simp
  | f :: fs, hf, acc, i, r, hi, hr, hs => by
    have hs2 : stripS r = prF f ++ prP fs := hs
    have hv : prP fs = [] ∨ ∃ x, prP fs = 102 :: 110 :: 32 :: x := by
      cases fs with
      | nil => exact .inl rfl
      | cons g r => exact .inr ⟨_, rfl⟩
    obtain ⟨g, j, h1, h2, h3, h4⟩ := fun_read (hf f (by simp)) hi hr hs2 hv
    have hst : stripS (10 :: prP fs) = prP fs := by
      rcases hv with e | ⟨x, e⟩ <;> rw [e] <;> rfl
    obtain ⟨gs, m, g1, g2⟩ := funs_read fs (fun x hx => hf x (by simp [hx])) (acc ++ [g]) j _ h4 h3 hst
    refine ⟨g :: gs, m, ?_, .cons h2 g2⟩
    have hgt := fun_gt hi h1
    rw [funsT, if_neg (by rw [kind_at hr, hs2]; simp [prF]), h1]
    show funsT L L.length (acc ++ [g]) j = _
    rw [funs_fuel L.length (L.length + 1) _ j h4 (by omega) (by omega), g1]
    simp
end
theorem same_prT {t t' : Tr} (h : erT t' = erT t) (least : Nat) : prT t' least = prT t least := by
  have a := congrFun (foldT_er (fun k n s ks _ least => if lvT k < least then [40] ++ bodyT k n s ks ++ [41] else bodyT k n s ks) (fun _ _ _ _ _ _ => rfl) t') least
  have b := congrFun (foldT_er (fun k n s ks _ least => if lvT k < least then [40] ++ bodyT k n s ks ++ [41] else bodyT k n s ks) (fun _ _ _ _ _ _ => rfl) t) least
  exact a.symm.trans ((by rw [h] : _ = _).trans b)
theorem same_weiT {t t' : Tr} (h : erT t' = erT t) : weiT t' = weiT t := by
  have a := foldT_er (fun _ _ _ ks _ => 1 + ks.sum) (fun _ _ _ _ _ _ => rfl) t'
  have b := foldT_er (fun _ _ _ ks _ => 1 + ks.sum) (fun _ _ _ _ _ _ => rfl) t
  exact a.symm.trans ((by rw [h] : _ = _).trans b)
theorem same_prF {f g : Fn} (h : SameF f g) : prF f = prF g := by unfold prF; rw [h.name, h.names, same_prT h.body]
theorem same_prP {fs gs : List Fn} (h : Each SameF fs gs) : prP fs = prP gs := by
  induction h with
  | nil => rfl
  | cons h _ ih => show prF _ ++ prP _ = prF _ ++ prP _; rw [same_prF h, ih]
theorem same_weiP {fs gs : List Fn} (h : Each SameF fs gs) : weiP fs = weiP gs := by
  unfold weiP
  induction h with
  | nil => rfl
  | cons h _ ih =>
    have hl := congrArg List.length h.names
    simp only [List.length_map] at hl
    simp only [List.map_cons, List.sum_cons, ih, same_weiT h.body, hl]
theorem same_arit {fs gs : List Fn} (h : Each SameF fs gs) : arit fs = arit gs := by
  unfold arit
  induction h with
  | nil => rfl
  | cons h _ ih =>
    have hl := congrArg List.length h.names
    simp only [List.length_map] at hl
    simp only [List.map_cons, ih, h.name, hl]
theorem same_names {fs gs : List Fn} (h : Each SameF fs gs) : fs.map (·.name) = gs.map (·.name) := by
  induction h with
  | nil => rfl
  | cons h _ ih => simp only [List.map_cons, ih, h.name]
theorem chk_none (all : List (List UInt8 × Nat)) (t : Tr) : ∀ t', erT t' = erT t → ∀ sc, chkT all t' sc = none → chkT all t sc = none := by
  have mk : ∀ k n s ks p sc, chkT all (.mk k n s ks p) sc = (if k = 1 ∧ s ∉ sc then some (p, 6)
      else if k = 11 ∧ (s, (ks.map (chkT all)).length) ∉ all then some (p, 6)
      else if k = 8 then
        if s ∈ sc then some (p, 4) else (((ks.map (chkT all)).getD 0 fun _ => none) sc).or (((ks.map (chkT all)).getD 1 fun _ => none) (s :: sc))
      else (ks.map (chkT all)).foldl (fun r c => r.or (c sc)) none) := fun k n s ks p sc => by
    unfold chkT; rw [foldT_mk]
  have fold : ∀ (ks : List Tr) sc r, (ks.map (chkT all)).foldl (fun r c => r.or (c sc)) r = none ↔ r = none ∧ ∀ t ∈ ks, chkT all t sc = none := by
    intro ks sc
    induction ks with
    | nil => intro r; simp
    | cons a ks ih =>
      intro r
      rw [List.map_cons, List.foldl_cons, ih]
      simp only [Option.or_eq_none_iff, List.mem_cons, forall_eq_or_imp]
      exact and_assoc
  have get : ∀ (ks ks' : List Tr) i (sc : List (List UInt8)), ks'.map erT = ks.map erT → (∀ a ∈ ks, ∀ t', erT t' = erT a → ∀ sc, chkT all t' sc = none → chkT all a sc = none) → ((ks'.map (chkT all)).getD i fun _ => none) sc = none → ((ks.map (chkT all)).getD i fun _ => none) sc = none := by
    intro ks ks' i sc he ih h
    have hl := congrArg List.length he
    simp only [List.length_map] at hl
    by_cases hi : i < ks.length
    · rw [List.getD_eq_getElem?_getD, List.getElem?_eq_getElem (by simpa using hi)] 
      rw [List.getD_eq_getElem?_getD, List.getElem?_eq_getElem (by simp; omega)] at h
      simp only [Option.getD_some, List.getElem_map] at h ⊢
      refine ih _ (List.getElem_mem _) _ ?_ _ h
      have := List.getElem_of_eq he (i := i) (by simp; omega)
      simpa using this
    · rw [List.getD_eq_getElem?_getD, List.getElem?_eq_none (by simp; omega)]; rfl
  induction t using Tr.ind with
  | h k n s ks p ih =>
    intro t' he sc h
    cases t' with
    | mk k' n' s' ks' p' =>
      rw [erT_mk, erT_mk] at he
      injection he with e1 e2 e3 e4 e5
      subst e1 e2 e3
      rw [mk] at h ⊢
      have hl := congrArg List.length e4
      simp only [List.length_map] at hl h ⊢
      split at h
      · cases h
      · rename_i g1
        rw [if_neg g1]
        split at h
        · cases h
        · rename_i g2
          rw [if_neg (by rw [← hl]; exact g2)]
          split at h
          · rename_i g3
            rw [if_pos g3]
            split at h
            · cases h
            · rename_i g4
              rw [if_neg g4]
              rw [Option.or_eq_none_iff] at h ⊢
              exact ⟨get ks ks' 0 _ e4 ih h.1, get ks ks' 1 _ e4 ih h.2⟩
          · rename_i g3
            rw [if_neg g3]
            rw [fold] at h ⊢
            refine ⟨rfl, fun a ha => ?_⟩
            obtain ⟨i, hi, rfl⟩ := List.getElem_of_mem ha
            have := List.getElem_of_eq e4 (i := i) (by simp; omega)
            exact ih _ ha (ks'[i]'(by omega)) (by simpa using this) sc (h.2 _ (List.getElem_mem _))
theorem twice_none {a b : List (List UInt8 × Nat)} (h : a.map (·.1) = b.map (·.1)) (seen : List (List UInt8)) (h2 : twiceN seen a = none) : twiceN seen b = none := by
  induction a generalizing b seen with
  | nil => cases b with
    | nil => rfl
    | cons x r => simp at h
  | cons x a ih => cases b with
    | nil => simp at h
    | cons y b =>
      simp only [List.map_cons, List.cons.injEq] at h
      rw [twiceN] at h2 ⊢
      split at h2
      · cases h2
      · rename_i g
        rw [if_neg (by rw [← h.1]; exact g), ← h.1]
        exact ih h.2 _ h2
theorem chkF_none {all : List (List UInt8 × Nat)} {gs fs : List Fn} (h : Each SameF gs fs) : ∀ seen, chkF all seen gs = none → chkF all seen fs = none := by
  induction h with
  | nil => exact fun _ _ => rfl
  | cons h _ ih =>
    intro seen h2
    rw [chkF] at h2 ⊢
    split at h2
    · cases h2
    · rename_i g
      rw [if_neg (by rw [← h.name]; exact g)]
      simp only [Option.or_eq_none_iff] at h2 ⊢
      obtain ⟨⟨a1, a2⟩, a3⟩ := h2
      exact ⟨⟨twice_none h.names _ a1, by rw [← h.names]; exact chk_none all _ _ h.body _ a2⟩, by rw [← h.name]; exact ih _ a3⟩
theorem each_symm {fs gs : List Fn} (h : Each SameF fs gs) : Each SameF gs fs := by
  induction h with
  | nil => exact .nil
  | cons h _ ih => exact .cons ⟨h.name.symm, h.names.symm, h.body.symm⟩ ih
theorem again {l : List UInt8} {fs : List Fn} {j : Nat} (h : parseT l = .ok fs j) (hs : (prP fs).length ≤ 4000) : ∃ gs m, parseT (prP fs) = .ok gs m ∧ prP gs = prP fs ∧ weiP gs = weiP fs := by
  unfold parseT at h
  split at h
  · cases h
  · obtain ⟨fs', m, h1, h2⟩ := bind_ok.mp h
    split at h2
    · cases h2
    · rename_i hc
      cases h2
      have hf := funs_fit _ _ _ _ _ (by simp) h1
      have hd : stripS (prP fs) = prP fs := by
        cases fs with
        | nil => rfl
        | cons g r => rfl
      obtain ⟨gs, m, g1, g2⟩ := funs_read (L := prP fs) fs hf [] 0 _ (Nat.zero_le _) rfl hd
      refine ⟨gs, m, ?_, same_prP g2, same_weiP g2⟩
      unfold parseT
      rw [if_neg (by omega), g1]
      simp only [List.nil_append, Ps.bind]
      have hc2 : chkP (prP fs) gs = none := by
        unfold chkP at hc ⊢
        rw [Option.or_eq_none_iff] at hc ⊢
        rw [same_arit g2, same_names g2]
        refine ⟨chkF_none (each_symm g2) _ hc.1, ?_⟩
        have := hc.2
        split at this
        · rename_i e; rw [if_pos e]
        · cases this
      rw [hc2]
end Go.Att
