/- Programs as text, in plain words: what is written is read as what it was. No program in sight. -/
import Derived.Test.YtgnomhbbbcfehaaGreatDoorZx3
namespace Go.Att
theorem parse10_app : ∀ (l r : List UInt8) (acc : Nat), Lib.parseUint10 acc (l ++ r) = match Lib.parseUint10 acc l with | .ok a => Lib.parseUint10 a r | e => e
  | [], r, acc => by simp [Lib.parseUint10]
  | c :: l, r, acc => by
    rw [List.cons_append, Lib.parseUint10, Lib.parseUint10]
    split
    · split
      · rfl
      · split
        · rfl
        · exact parse10_app l r _
    · rfl
theorem digits_all (u : Nat) : ∀ c ∈ Lib.decDigits u, digC c = true := by
  induction u using Nat.strongRecOn with
  | ind u ih =>
    rw [Lib.decDigits]
    have hd : ∀ k, k < 10 → digC (UInt8.ofNat (48 + k)) = true := by
      intro k hk
      unfold digC
      have : (UInt8.ofNat (48 + k)).toNat = 48 + k := by rw [UInt8.toNat_ofNat']; omega
      rw [this]; simp; omega
    by_cases h : u < 10
    · rw [dif_pos h]; intro c hc; rw [List.mem_singleton.mp hc]; exact hd u h
    · rw [dif_neg h]
      intro c hc
      rcases List.mem_append.mp hc with e | e
      · exact ih (u / 10) (by omega) c e
      · rw [List.mem_singleton.mp e]; exact hd _ (by omega)
theorem digits_head (u : Nat) : ∃ c l, Lib.decDigits u = c :: l ∧ 48 ≤ c.toNat ∧ c.toNat ≤ 57 ∧ (c.toNat = 48 → u = 0) := by
  induction u using Nat.strongRecOn with
  | ind u ih =>
    rw [Lib.decDigits]
    by_cases h : u < 10
    · rw [dif_pos h]
      refine ⟨_, _, rfl, ?_, ?_, ?_⟩ <;> simp <;> omega
    · rw [dif_neg h]
      obtain ⟨c, l, h1, h2, h3, h4⟩ := ih (u / 10) (by omega)
      rw [h1]
      exact ⟨c, _, rfl, h2, h3, fun e => by have := h4 e; omega⟩
theorem parse_digits (u : Nat) (hu : u < 18446744073709551616) : Lib.parseUint10 0 (Lib.decDigits u) = .ok u := by
  induction u using Nat.strongRecOn with
  | ind u ih =>
    rw [Lib.decDigits]
    have hd : ∀ k, k < 10 → (UInt8.ofNat (48 + k)).toNat = 48 + k := fun k hk => by rw [UInt8.toNat_ofNat']; omega
    by_cases h : u < 10
    · rw [dif_pos h, Lib.parseUint10, if_pos (by rw [hd u h]; omega), if_neg (by omega), if_neg (by rw [hd u h]; omega), Lib.parseUint10, hd u h]
      congr 1; omega
    · rw [dif_neg h, parse10_app, ih (u / 10) (by omega) (by omega)]
      have h10 : u % 10 < 10 := by omega
      simp only
      rw [Lib.parseUint10, if_pos (by rw [hd _ h10]; omega), if_neg (by omega), if_neg (by rw [hd _ h10]; omega), Lib.parseUint10, hd _ h10]
      congr 1; omega
theorem joinC_dig {c : UInt8} (h : digC c = true) : joinC c = true := by unfold joinC; simp [h]
theorem itoa_nn (n : Int) (h : 0 ≤ n) : Lib.itoa n = Lib.decDigits n.toNat := by unfold Lib.itoa; rw [if_neg (by omega)]
theorem itoa_read (n : Int) (h0 : 0 ≤ n) (h1 : n ≤ 9223372036854775807) : Lib.atoiAll (Lib.itoa n) = .ok n ∧ kindW (Lib.itoa n) = 2 ∧ (∀ c ∈ Lib.itoa n, joinC c = true) ∧ Lib.itoa n ≠ [] := by
  rw [itoa_nn n h0]
  obtain ⟨c, l, e, a1, a2, a3⟩ := digits_head n.toNat
  refine ⟨?_, ?_, fun c hc => joinC_dig (digits_all _ c hc), by rw [e]; simp⟩
  · have hp := parse_digits n.toNat (by omega)
    rw [e] at hp ⊢
    rw [Lib.atoiAll_plain c l (by omega) (by omega)]
    unfold Lib.parseMag
    rw [if_neg (by simp), hp]
    unfold Lib.signless
    simp only
    rw [if_neg (by omega)]
    congr 1; omega
  · unfold kindW
    have hc : letC c = false := by
      unfold letC
      rw [decide_eq_false (p := 97 ≤ c.toNat) (by omega), decide_eq_false (p := 65 ≤ c.toNat) (by omega)]; rfl
    have hl : letC ((Lib.decDigits n.toNat).headD 0) = false := by rw [e]; exact hc
    rw [hl, if_neg (by simp), if_pos]
    simp only [Bool.and_eq_true, Bool.or_eq_true, decide_eq_true_eq]
    refine ⟨List.all_eq_true.mpr (digits_all _), ?_⟩
    by_cases hz : c.toNat = 48
    · right
      rw [a3 hz, Lib.decDigits]; simp
    · left; rw [e]; exact hz
def NJ (u : List UInt8) : Prop := joinC (u.headD 32) = false ∧ isS u [40] = false
theorem NJ.of {u : List UInt8} (h : joinC (u.headD 32) = false) (h2 : isS u [40] = false) : NJ u := ⟨h, h2⟩
theorem takeW {p : UInt8 → Bool} {w u : List UInt8} (hj : ∀ c ∈ w, p c = true) (hu : ∀ c r, u = c :: r → p c = false) : (w ++ u).takeWhile p = w := by
  induction w with
  | nil =>
    cases u with
    | nil => rfl
    | cons c r => rw [List.nil_append, List.takeWhile_cons, hu c r rfl]; simp
  | cons a w ih =>
    rw [List.cons_append, List.takeWhile_cons, hj a (by simp), if_pos rfl, ih (fun c hc => hj c (by simp [hc]))]
theorem tk_word {r w u : List UInt8} (hr : stripS r = w ++ u) (hj : ∀ c ∈ w, joinC c = true) (hw : w ≠ []) (hu : joinC (u.headD 32) = false) : tkS r = ⟨kindW w, 0, w⟩ ∧ advS r = u := by
  have h1 : tkS r = ⟨kindW w, 0, w⟩ := by
    unfold tkS tokL
    rw [hr]
    have ht : (w ++ u).takeWhile joinC = w := takeW hj fun c t e => by subst e; exact hu
    cases w with
    | nil => exact absurd rfl hw
    | cons a w =>
      simp only [List.cons_append] at ht ⊢
      rw [if_pos (hj a (by simp)), ht]
  refine ⟨h1, ?_⟩
  unfold advS
  rw [h1, hr]; simp
def Hd (x : List UInt8) : Prop := skipL false x = 0 ∧ x ≠ []
theorem Hd.strip {x : List UInt8} (h : Hd x) : stripS x = x := by unfold stripS; rw [h.1]; rfl
theorem strip_blank (x : List UInt8) : stripS (32 :: x) = stripS x := by
  unfold stripS
  rw [skipL, if_pos (by decide), Nat.add_comm]; rfl
theorem Hd.app {x : List UInt8} (h : Hd x) (u : List UInt8) : Hd (x ++ u) := by
  obtain ⟨h1, h2⟩ := h
  cases x with
  | nil => exact absurd rfl h2
  | cons c t =>
    refine ⟨?_, by simp⟩
    rw [List.cons_append, skipL]
    rw [skipL] at h1
    split at h1
    · omega
    · rename_i g
      rw [if_neg g]
      split at h1
      · omega
      · rename_i g; rw [if_neg g]
theorem Hd.cons {c : UInt8} (t : List UInt8) (h : c.toNat ≠ 32 ∧ c.toNat ≠ 9 ∧ c.toNat ≠ 10 ∧ c.toNat ≠ 35) : Hd (c :: t) := by
  refine ⟨?_, by simp⟩
  rw [skipL, if_neg (by omega), if_neg (by omega)]
theorem Hd.join {w : List UInt8} (hj : ∀ c ∈ w, joinC c = true) (hw : w ≠ []) : Hd w := by
  cases w with
  | nil => exact absurd rfl hw
  | cons c t =>
    have h := hj c (by simp)
    refine .cons t ?_
    unfold joinC digC letC at h
    simp only [Bool.or_eq_true, Bool.and_eq_true, decide_eq_true_eq, beq_iff_eq] at h
    omega
theorem prT_par (t : Tr) (least : Nat) (h : lvT t.kind < least) : prT t least = [40] ++ prT t 0 ++ [41] := by
  cases t with
  | mk k n s ks p => change lvT k < least at h; rw [prT_mk, prT_mk, if_pos h, if_neg (by omega)]
theorem prT_here (t : Tr) (least : Nat) (h : least ≤ lvT t.kind) : prT t least = prT t 0 := by
  cases t with
  | mk k n s ks p => change least ≤ lvT k at h; rw [prT_mk, prT_mk, if_neg (Nat.not_lt.mpr h), if_neg (by omega)]
theorem hd_fit {t : Tr} (h : ∀ k, FitB k t → Hd (prT t 0)) {k least : Nat} (hf : Fit k least t) : Hd (prT t least) := by
  cases hf with
  | here h1 h2 => rw [prT_here t _ h1]; exact h _ h2
  | inn h1 h2 => rw [prT_par t _ h1]; exact .cons _ (by decide)
theorem hd_prT (t : Tr) : ∀ k, FitB k t → Hd (prT t 0) := by
  induction t using Tr.ind with
  | h kd n s ks p ih =>
    intro k hf
    rw [prT_mk, if_neg (by omega)]
    cases hf with
    | num h0 h1 => exact .join (itoa_read n h0 h1).2.2.1 (itoa_read n h0 h1).2.2.2
    | name h => exact .join h.all h.ne
    | bin hk ha hb =>
      have h1 := hd_fit (ih _ (by simp)) ha
      rcases hk with rfl | rfl | rfl | rfl <;> exact (h1.app _).app _
    | same ha hb =>
      have h1 := hd_fit (ih _ (by simp)) ha
      exact (h1.app _).app _
    | neg ha => exact .cons _ (by decide)
    | letB h ha hb => exact .cons _ (by decide)
    | need ha hb hc => exact .cons _ (by decide)
    | ifB ha hb hc => exact .cons _ (by decide)
    | call h hs => exact (Hd.join h.all h.ne).app _
theorem hd_at {t : Tr} {k least : Nat} (hf : Fit k least t) (u : List UInt8) : stripS (prT t least ++ u) = prT t least ++ u := ((hd_fit (hd_prT t) hf).app u).strip
section
variable {L : List UInt8}
def CPart (L : List UInt8) (k : Nat) (t : Tr) (w : List UInt8) : Prop := ∀ i r u, i ≤ L.length → L.drop i = r → stripS r = w ++ u → NJ u → ∃ t' j, (readT L (k + 1)).1 i = .ok t' j ∧ erT t' = erT t ∧ L.drop j = u ∧ j ≤ L.length
def CProd (L : List UInt8) (k : Nat) (t : Tr) (w : List UInt8) : Prop := ∀ i r u, i ≤ L.length → L.drop i = r → stripS r = w ++ u → NJ u → ∃ t' j, prodT L (readT L (k + 1)).1 i = leftsT L (readT L (k + 1)).1 [42] 4 [47] 5 (L.length + 1) t' j ∧ erT t' = erT t ∧ L.drop j = u ∧ j ≤ L.length
def CSum (L : List UInt8) (k : Nat) (t : Tr) (w : List UInt8) : Prop := ∀ i r u, i ≤ L.length → L.drop i = r → stripS r = w ++ u → NJ u → isS u [42] = false → isS u [47] = false → ∃ t' j, sumT L (readT L (k + 1)).1 i = leftsT L (prodT L (readT L (k + 1)).1) [43] 2 [45] 3 (L.length + 1) t' j ∧ erT t' = erT t ∧ L.drop j = u ∧ j ≤ L.length
def CExp (L : List UInt8) (k : Nat) (t : Tr) (w : List UInt8) : Prop := ∀ i r u, i ≤ L.length → L.drop i = r → stripS r = w ++ u → NJ u → isS u [42] = false → isS u [47] = false → isS u [43] = false → isS u [45] = false → isS u [61, 61] = false → ∃ t' j, (readT L (k + 1)).2 i = .ok t' j ∧ erT t' = erT t ∧ L.drop j = u ∧ j ≤ L.length
variable {k : Nat} {t : Tr} {w : List UInt8}
theorem prod_of_part (h : CPart L k t w) : CProd L k t w := fun i r u hi hr hs hu => by
  obtain ⟨t', j, h1, h2⟩ := h i r u hi hr hs hu
  exact ⟨t', j, by unfold prodT joinT; rw [h1]; rfl, h2⟩
theorem sum_of_prod (h : CProd L k t w) : CSum L k t w := fun i r u hi hr hs hu n1 n2 => by
  obtain ⟨t', j, h1, h2, h3, h4⟩ := h i r u hi hr hs hu
  refine ⟨t', j, ?_, h2, h3, h4⟩
  unfold sumT
  rw [joinT, h1, leftsT, isT_at h3, n1, if_neg (by simp), isT_at h3, n2, if_neg (by simp)]
  rfl
theorem part_start {P E : Nat → Ps Tr} {m i j : Nat} {x : Tr} (h : partT L m P E i = .ok x j) {s : List UInt8} (hs : s ∈ ownW) : isT L i s = false := by
  cases e : isT L i s with
  | false => rfl
  | true =>
    exfalso
    have e2 : (tokN L i).txt = s := by unfold isT at e; simp at e; exact e.2
    have e3 : (tokN L i).kind = 3 ∨ (tokN L i).kind = 1 := by unfold isT at e; simp at e; exact e.1
    have n1 : isT L i [40] = false := by unfold isT; rw [e2]; rw [decide_eq_false (p := s = [40])]; simp; rintro rfl; simp [ownW] at hs
    have n2 : isT L i [45] = false := by unfold isT; rw [e2]; rw [decide_eq_false (p := s = [45])]; simp; rintro rfl; simp [ownW] at hs
    unfold partT at h
    rw [if_neg (by omega), n1, if_neg (by simp), n2, if_neg (by simp)] at h
    obtain ⟨y, m, h1, _⟩ := bind_ok.mp h
    unfold nameT at h1
    rw [if_pos (.inr (by rw [e2]; exact hs))] at h1
    cases h1
theorem sum_start {P E : Nat → Ps Tr} {m i j : Nat} {x : Tr} (h : sumT L (partT L m P E) i = .ok x j) {s : List UInt8} (hs : s ∈ ownW) : isT L i s = false := by
  unfold sumT joinT at h
  obtain ⟨_, _, h, _⟩ := bind_ok.mp h
  unfold prodT joinT at h
  obtain ⟨_, _, h, _⟩ := bind_ok.mp h
  exact part_start h hs
theorem sum_end (h : CSum L k t w) {i : Nat} {r u : List UInt8} (hi : i ≤ L.length) (hr : L.drop i = r) (hs : stripS r = w ++ u) (hu : NJ u) (n1 : isS u [42] = false) (n2 : isS u [47] = false) (n3 : isS u [43] = false) (n4 : isS u [45] = false) : ∃ t' j, sumT L (readT L (k + 1)).1 i = .ok t' j ∧ erT t' = erT t ∧ L.drop j = u ∧ j ≤ L.length := by
  obtain ⟨t', j, h1, h2, h3, h4⟩ := h i r u hi hr hs hu n1 n2
  refine ⟨t', j, ?_, h2, h3, h4⟩
  rw [h1, leftsT, isT_at h3, n3, if_neg (by simp), isT_at h3, n4, if_neg (by simp)]
theorem exp_of_sum (h : CSum L k t w) : CExp L k t w := fun i r u hi hr hs hu n1 n2 n3 n4 n5 => by
  obtain ⟨t', j, h1, h2, h3, h4⟩ := sum_end h hi hr hs hu n1 n2 n3 n4
  refine ⟨t', j, ?_, h2, h3, h4⟩
  change exprT L k _ _ (sumT L (readT L (k + 1)).1) i = _
  unfold exprT
  rw [sum_start h1 (by simp [ownW]), if_neg (by simp), sum_start h1 (by simp [ownW]), if_neg (by simp), sum_start h1 (by simp [ownW]), if_neg (by simp), h1]
  simp only [Ps.bind]
  rw [isT_at h3, n5]; rfl
theorem part_of_exp (h : CExp L k t w) (hw : Hd w) : CPart L (k + 1) t ([40] ++ w ++ [41]) := fun i r u hi hr hs hu => by
  have hs' : stripS r = 40 :: (w ++ ([41] ++ u)) := by rw [hs]; simp
  have ht : tkS r = ⟨3, 0, [40]⟩ := by unfold tkS; rw [hs']; rfl
  have ha : advS r = w ++ ([41] ++ u) := by unfold advS; rw [ht, hs']; rfl
  have h40 : isT L i [40] = true := by rw [isT_at hr]; unfold isS; rw [ht]; rfl
  obtain ⟨t', j, h1, h2, h3, h4⟩ := h (nxtN L i) (advS r) ([41] ++ u) (nxtN_le L i hi) (nxt_at hr) (by rw [ha]; exact (hw.app _).strip) (.of rfl rfl) rfl rfl rfl rfl rfl
  have h41 : isT L j [41] = true := by rw [isT_at h3]; rfl
  refine ⟨t', nxtN L j, ?_, h2, (nxt_at h3).trans rfl, nxtN_le L j h4⟩
  change partT L (k + 1) _ _ i = _
  unfold partT
  rw [if_neg (by rw [(tokN_at hr).1, ht]; decide), h40, if_pos rfl]
  unfold enterT mustT
  rw [if_neg (by omega)]
  simp only [Ps.bind]
  rw [h1]
  simp only
  rw [h41, if_pos rfl]
theorem lefts_one {next : Nat → Ps Tr} (hn : Mono L next) {a b : List UInt8} {ka kb : Nat} {x' y' : Tr} {j m : Nat} {s : List UInt8} {kd : Nat} (hs : (s = a ∧ kd = ka) ∨ (s = b ∧ kd = kb ∧ isT L j a = false)) (hj : j ≤ L.length) (h1 : isT L j s = true) (h2 : next (nxtN L j) = .ok y' m) :
    leftsT L next a ka b kb (L.length + 1) x' j = leftsT L next a ka b kb (L.length + 1) (.mk kd 0 [] [x', y'] (tokN L j).pos) m := by
  have g := isT_gt h1
  have g2 := nxtN_le L j hj
  obtain ⟨a1, a2⟩ := hn _ _ _ g2 h2
  rw [leftsT]
  rcases hs with ⟨rfl, rfl⟩ | ⟨rfl, rfl, h3⟩
  · rw [h1, if_pos rfl, h2]
    exact lefts_fuel hn _ _ _ _ _ _ _ _ a2 (by omega) (by omega)
  · rw [h3, if_neg (by simp), h1, if_pos rfl, h2]
    exact lefts_fuel hn _ _ _ _ _ _ _ _ a2 (by omega) (by omega)
theorem bin_prod {a b : Tr} {p kd : Nat} (hk : kd = 4 ∨ kd = 5) {k : Nat} (ha : CProd L k a (prT a 3)) (hb : CPart L k b (prT b 4)) (hf : Fit k 4 b) : CProd L k (.mk kd 0 [] [a, b] p) (prT (.mk kd 0 [] [a, b] p) 0) := fun i r u hi hr hs hu => by
  have hbody : prT (.mk kd 0 [] [a, b] p) 0 = prT a 3 ++ signT kd ++ prT b 4 := by
    rw [prT_mk, if_neg (by omega)]; rcases hk with rfl | rfl <;> rfl
  have hc : signT kd = [32, if kd = 4 then 42 else 47, 32] := by rcases hk with rfl | rfl <;> rfl
  rw [hbody, hc] at hs
  obtain ⟨a', j, h1, h2, h3, h4⟩ := ha i r (32 :: (if kd = 4 then 42 else 47) :: 32 :: (prT b 4 ++ u)) hi hr (by rw [hs]; simp) (.of rfl (by rcases hk with rfl | rfl <;> rfl))
  have hadv : advS (32 :: (if kd = 4 then 42 else 47) :: 32 :: (prT b 4 ++ u)) = 32 :: (prT b 4 ++ u) := by rcases hk with rfl | rfl <;> rfl
  obtain ⟨b', m, g1, g2, g3, g4⟩ := hb (nxtN L j) _ u (nxtN_le L j h4) ((nxt_at h3).trans hadv) (by rw [strip_blank]; exact hd_at hf u) hu
  refine ⟨.mk kd 0 [] [a', b'] (tokN L j).pos, m, ?_, by rw [erT_mk, erT_mk]; simp [h2, g2], g3, g4⟩
  rw [h1]
  refine lefts_one (mono_read (k + 1)).1 (s := [if kd = 4 then 42 else 47]) ?_ h4 (by rw [isT_at h3]; rcases hk with rfl | rfl <;> rfl) g1
  rcases hk with rfl | rfl
  · exact .inl ⟨rfl, rfl⟩
  · exact .inr ⟨rfl, rfl, by rw [isT_at h3]; rfl⟩
theorem bin_sum {a b : Tr} {p kd : Nat} (hk : kd = 2 ∨ kd = 3) {k : Nat} (ha : CSum L k a (prT a 2)) (hb : CProd L k b (prT b 3)) (hf : Fit k 3 b) : CSum L k (.mk kd 0 [] [a, b] p) (prT (.mk kd 0 [] [a, b] p) 0) := fun i r u hi hr hs hu n1 n2 => by
  have hbody : prT (.mk kd 0 [] [a, b] p) 0 = prT a 2 ++ signT kd ++ prT b 3 := by
    rw [prT_mk, if_neg (by omega)]; rcases hk with rfl | rfl <;> rfl
  have hc : signT kd = [32, if kd = 2 then 43 else 45, 32] := by rcases hk with rfl | rfl <;> rfl
  rw [hbody, hc] at hs
  obtain ⟨a', j, h1, h2, h3, h4⟩ := ha i r (32 :: (if kd = 2 then 43 else 45) :: 32 :: (prT b 3 ++ u)) hi hr (by rw [hs]; simp) (.of rfl (by rcases hk with rfl | rfl <;> rfl)) (by rcases hk with rfl | rfl <;> rfl) (by rcases hk with rfl | rfl <;> rfl)
  have hadv : advS (32 :: (if kd = 2 then 43 else 45) :: 32 :: (prT b 3 ++ u)) = 32 :: (prT b 3 ++ u) := by rcases hk with rfl | rfl <;> rfl
  obtain ⟨b', m, g1, g2, g3, g4⟩ := hb (nxtN L j) _ u (nxtN_le L j h4) ((nxt_at h3).trans hadv) (by rw [strip_blank]; exact hd_at hf u) hu
  have g5 : prodT L (readT L (k + 1)).1 (nxtN L j) = .ok b' m := by
    rw [g1, leftsT, isT_at g3, n1, if_neg (by simp), isT_at g3, n2, if_neg (by simp)]
  refine ⟨.mk kd 0 [] [a', b'] (tokN L j).pos, m, ?_, by rw [erT_mk, erT_mk]; simp [h2, g2], g3, g4⟩
  rw [h1]
  refine lefts_one (mono_join (mono_read (k + 1)).1 _ _ _ _) (s := [if kd = 2 then 43 else 45]) ?_ h4 (by rw [isT_at h3]; rcases hk with rfl | rfl <;> rfl) g5
  rcases hk with rfl | rfl
  · exact .inl ⟨rfl, rfl⟩
  · exact .inr ⟨rfl, rfl, by rw [isT_at h3]; rfl⟩
theorem same_exp {a b : Tr} {p k : Nat} (ha : CSum L k a (prT a 2)) (hb : CSum L k b (prT b 2)) (hf : Fit k 2 b) : CExp L k (.mk 6 0 [] [a, b] p) (prT (.mk 6 0 [] [a, b] p) 0) := fun i r u hi hr hs hu n1 n2 n3 n4 n5 => by
  have hbody : prT (.mk 6 0 [] [a, b] p) 0 = prT a 2 ++ [32, 61, 61, 32] ++ prT b 2 := by
    rw [prT_mk, if_neg (by omega)]; rfl
  rw [hbody] at hs
  obtain ⟨a', j, h1, h2, h3, h4⟩ := sum_end ha hi hr (u := 32 :: 61 :: 61 :: 32 :: (prT b 2 ++ u)) (by rw [hs]; simp) (.of rfl rfl) rfl rfl rfl rfl
  obtain ⟨b', m, g1, g2, g3, g4⟩ := sum_end hb (nxtN_le L j h4) ((nxt_at h3).trans (show _ = 32 :: (prT b 2 ++ u) from rfl)) (u := u) (by rw [strip_blank]; exact hd_at hf u) hu n1 n2 n3 n4
  refine ⟨.mk 6 0 [] [a', b'] (tokN L i).pos, m, ?_, by rw [erT_mk, erT_mk]; simp [h2, g2], g3, g4⟩
  change exprT L k _ _ (sumT L (readT L (k + 1)).1) i = _
  unfold exprT
  rw [sum_start h1 (by simp [ownW]), if_neg (by simp), sum_start h1 (by simp [ownW]), if_neg (by simp), sum_start h1 (by simp [ownW]), if_neg (by simp), h1]
  simp only [Ps.bind]
  rw [isT_at h3, show isS (32 :: 61 :: 61 :: 32 :: (prT b 2 ++ u)) [61, 61] = true from rfl, if_pos rfl, g1]
theorem num_part {k p : Nat} {n : Int} (h0 : 0 ≤ n) (h1 : n ≤ 9223372036854775807) : CPart L k (.mk 0 n [] [] p) (prT (.mk 0 n [] [] p) 0) := fun i r u hi hr hs hu => by
  obtain ⟨q1, q2, q3, q4⟩ := itoa_read n h0 h1
  have hbody : prT (.mk 0 n [] [] p) 0 = Lib.itoa n := by rw [prT_mk, if_neg (by omega)]; rfl
  rw [hbody] at hs
  obtain ⟨ht, ha⟩ := tk_word hs q3 q4 hu.1
  refine ⟨.mk 0 n [] [] (tokN L i).pos, nxtN L i, ?_, by rw [erT_mk, erT_mk], (nxt_at hr).trans ha, nxtN_le L i hi⟩
  change partT L k _ _ i = _
  unfold partT
  rw [if_pos (by rw [(tokN_at hr).1, ht, q2]), (tokN_at hr).2.1, ht]
  simp only
  rw [q1]
theorem name_read {i : Nat} {r s u : List UInt8} (hr : L.drop i = r) (hs : stripS r = s ++ u) (h : NameOk s) (hu : joinC (u.headD 32) = false) : nameT L i = .ok (s, (tokN L i).pos) (nxtN L i) ∧ L.drop (nxtN L i) = u ∧ (tokN L i).kind = 1 ∧ (∀ x, isT L i x = decide (s = x)) := by
  obtain ⟨ht, ha⟩ := tk_word hs h.all h.ne hu
  have hk : (tokN L i).kind = 1 := by rw [(tokN_at hr).1, ht, h.kind]
  have hx : (tokN L i).txt = s := by rw [(tokN_at hr).2.1, ht]
  refine ⟨?_, (nxt_at hr).trans ha, hk, fun x => by unfold isT; rw [hk, hx]; simp⟩
  unfold nameT
  rw [if_neg (by rw [hk, hx]; simp [h.own]), if_neg (by rw [hx]; have := h.len; omega), hx]
theorem not_sign {s : List UInt8} (h : NameOk s) (c : UInt8) (hc : joinC c = false) : decide (s = [c]) = false := by
  apply decide_eq_false
  rintro rfl
  rw [h.all c (by simp)] at hc
  cases hc
theorem name_part {k p : Nat} {s : List UInt8} (h : NameOk s) : CPart L k (.mk 1 0 s [] p) (prT (.mk 1 0 s [] p) 0) := fun i r u hi hr hs hu => by
  have hbody : prT (.mk 1 0 s [] p) 0 = s := by rw [prT_mk, if_neg (by omega)]; rfl
  rw [hbody] at hs
  obtain ⟨q1, q2, q3, q4⟩ := name_read hr hs h hu.1
  refine ⟨.mk 1 0 s [] (tokN L i).pos, nxtN L i, ?_, by rw [erT_mk, erT_mk], q2, nxtN_le L i hi⟩
  change partT L k _ _ i = _
  unfold partT
  rw [if_neg (by rw [q3]; decide), q4, not_sign h 40 rfl, if_neg (by simp), q4, not_sign h 45 rfl, if_neg (by simp), q1]
  simp only [Ps.bind]
  rw [isT_at q2, hu.2]; rfl
end
end Go.Att
