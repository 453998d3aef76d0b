/- Programs as text, in plain words: what is read weighs no more than it is long. No program in sight. What is read weighs little; two texts of the law, in plain words. No program in sight. The law's own text, read and written once more, in plain words. No program in sight. -/
import Derived.Test.YtejkepihicphlaaGreatDoorSr7
import Derived.KernelRfl
section
namespace Go.Att
theorem weiT_at (k : Nat) (n : Int) (s : List UInt8) (ks : List Tr) (p : Nat) : weiT (.mk k n s ks p) = 1 + (ks.map weiT).sum := by unfold weiT; rw [foldT_mk]
def Wt {α : Type} (L : List UInt8) (wt : α → Nat) (f : Nat → Ps α) : Prop := ∀ i x j, i ≤ L.length → f i = .ok x j → i + wt x ≤ j ∧ j ≤ L.length
section
variable {L : List UInt8}
theorem wt_must {s : List UInt8} {i j : Nat} {u : Unit} (hi : i ≤ L.length) (h : mustT L i s = .ok u j) : i + 1 ≤ j ∧ j ≤ L.length := by
  obtain ⟨h2, rfl⟩ := must_ok.mp h
  exact ⟨(isT_gt h2).1, nxtN_le L i hi⟩
theorem wt_name : Wt L (fun _ => 1) (nameT L) := fun i x j hi h => by
  unfold nameT at h
  split at h
  · cases h
  · split at h
    · cases h
    · rename_i h1 _
      cases h; exact ⟨(nxtN_gt L i (by omega)).1, nxtN_le L i hi⟩
theorem wt_more {α : Type} {one : Nat → Ps α} {wt : α → Nat} (h1 : Wt L wt one) : ∀ n acc i x j, i ≤ L.length → moreT L one n acc i = .ok x j → i + (x.map wt).sum ≤ j + (acc.map wt).sum ∧ j ≤ L.length
  | 0, _, i, x, j, _, h => by cases h
  | n + 1, acc, i, x, j, hi, h => by
    rw [moreT] at h
    split at h
    · obtain ⟨y, m, h2, h3⟩ := bind_ok.mp h
      obtain ⟨a1, a2⟩ := h1 _ _ _ (nxtN_le L i hi) h2
      obtain ⟨a3, a4⟩ := wt_more h1 n _ _ _ _ a2 h3
      have := nxtN_ge L i
      simp at a3
      exact ⟨by omega, a4⟩
    · obtain ⟨y, m, h2, h3⟩ := bind_ok.mp h
      cases h3
      have := wt_must hi h2
      exact ⟨by omega, this.2⟩
theorem wt_list {α : Type} {one : Nat → Ps α} {wt : α → Nat} (h1 : Wt L wt one) (k : Nat) : Wt L (fun x => (x.map wt).sum) (listT L k one) := fun i x j hi h => by
  unfold listT at h
  split at h
  · obtain ⟨y, m, h2, h3⟩ := bind_ok.mp h
    obtain ⟨_, rfl⟩ := enter_ok.mp h2
    have g1 := nxtN_ge L i; have g2 := nxtN_le L i hi
    split at h3
    · cases h3
      exact ⟨Nat.le_trans g1 (nxtN_ge L _), nxtN_le L _ g2⟩
    · obtain ⟨y, m, h4, h5⟩ := bind_ok.mp h3
      obtain ⟨a1, a2⟩ := h1 _ _ _ g2 h4
      obtain ⟨a3, a4⟩ := wt_more h1 _ _ _ _ _ a2 h5
      simp at a3
      exact ⟨by show i + (x.map wt).sum ≤ j; omega, a4⟩
  · cases h
theorem wt_lefts {next : Nat → Ps Tr} (h1 : Wt L weiT next) (a : List UInt8) (ka : Nat) (b : List UInt8) (kb : Nat) : ∀ n acc i x j, i ≤ L.length → leftsT L next a ka b kb n acc i = .ok x j → i + weiT x ≤ j + weiT acc ∧ j ≤ L.length
  | 0, _, i, x, j, _, h => by cases h
  | n + 1, acc, i, x, j, hi, h => by
    rw [leftsT] at h
    have g2 := nxtN_le L i hi
    split at h
    · rename_i ht
      have g1 := (isT_gt ht).1
      obtain ⟨y, m, h2, h3⟩ := bind_ok.mp h
      obtain ⟨a1, a2⟩ := h1 _ _ _ g2 h2
      obtain ⟨a3, a4⟩ := wt_lefts h1 a ka b kb n _ _ _ _ a2 h3
      rw [weiT_at] at a3; simp at a3
      exact ⟨by omega, a4⟩
    · split at h
      · rename_i ht
        have g1 := (isT_gt ht).1
        obtain ⟨y, m, h2, h3⟩ := bind_ok.mp h
        obtain ⟨a1, a2⟩ := h1 _ _ _ g2 h2
        obtain ⟨a3, a4⟩ := wt_lefts h1 a ka b kb n _ _ _ _ a2 h3
        rw [weiT_at] at a3; simp at a3
        exact ⟨by omega, a4⟩
      · cases h; exact ⟨by omega, hi⟩
theorem wt_join {next : Nat → Ps Tr} (h1 : Wt L weiT next) (a : List UInt8) (ka : Nat) (b : List UInt8) (kb : Nat) : Wt L weiT (joinT L next a ka b kb) := fun i x j hi h => by
  unfold joinT at h
  obtain ⟨y, m, h2, h3⟩ := bind_ok.mp h
  obtain ⟨a1, a2⟩ := h1 _ _ _ hi h2
  obtain ⟨a3, a4⟩ := wt_lefts h1 a ka b kb _ _ _ _ _ a2 h3
  exact ⟨by omega, a4⟩
theorem wt_sum {part : Nat → Ps Tr} (h1 : Wt L weiT part) : Wt L weiT (sumT L part) := wt_join (wt_join h1 _ _ _ _) _ _ _ _
theorem wt_part {k : Nat} {P E : Nat → Ps Tr} (h1 : Wt L weiT P) (h2 : Wt L weiT E) : Wt L weiT (partT L k P E) := fun i x j hi h => by
  have g2 := nxtN_le L i hi
  unfold partT at h
  split at h
  · rename_i hk
    have g1 := (nxtN_gt L i (by omega)).1
    split at h
    · cases h; exact ⟨by rw [weiT_at]; simp; omega, g2⟩
    · cases h
  · split at h
    · rename_i ht
      have g1 := (isT_gt ht).1
      obtain ⟨y, m, h3, h⟩ := bind_ok.mp h
      obtain ⟨_, rfl⟩ := enter_ok.mp h3
      obtain ⟨y, m, h4, h⟩ := bind_ok.mp h
      obtain ⟨a1, a2⟩ := h2 _ _ _ g2 h4
      obtain ⟨y, m, h5, h⟩ := bind_ok.mp h
      obtain ⟨a3, a4⟩ := wt_must a2 h5
      cases h
      exact ⟨by omega, a4⟩
    · split at h
      · rename_i ht
        have g1 := (isT_gt ht).1
        obtain ⟨y, m, h3, h⟩ := bind_ok.mp h
        obtain ⟨_, rfl⟩ := enter_ok.mp h3
        obtain ⟨y, m, h4, h⟩ := bind_ok.mp h
        obtain ⟨a1, a2⟩ := h1 _ _ _ g2 h4
        cases h
        exact ⟨by rw [weiT_at]; simp; omega, a2⟩
      · obtain ⟨y, m, h3, h⟩ := bind_ok.mp h
        obtain ⟨a1, a2⟩ := wt_name _ _ _ hi h3
        split at h
        · obtain ⟨y, m, h4, h⟩ := bind_ok.mp h
          obtain ⟨a3, a4⟩ := wt_list h2 _ _ _ _ a2 h4
          cases h
          exact ⟨by rw [weiT_at]; dsimp only at *; omega, a4⟩
        · cases h; exact ⟨by rw [weiT_at]; simpa using a1, a2⟩
theorem wt_expr {k : Nat} {S E S0 : Nat → Ps Tr} (h1 : Wt L weiT S) (h2 : Wt L weiT E) (h3 : Wt L weiT S0) : Wt L weiT (exprT L k S E S0) := fun i x j hi h => by
  have g1 := nxtN_ge L i; have g2 := nxtN_le L i hi
  unfold exprT at h
  split at h
  · obtain ⟨_, m, e1, h⟩ := bind_ok.mp h
    obtain ⟨_, rfl⟩ := enter_ok.mp e1
    obtain ⟨_, m, e1, h⟩ := bind_ok.mp h
    obtain ⟨a1, a2⟩ := wt_name _ _ _ g2 e1
    obtain ⟨_, m, e1, h⟩ := bind_ok.mp h
    obtain ⟨a3, a4⟩ := wt_must a2 e1
    obtain ⟨_, m, e1, h⟩ := bind_ok.mp h
    obtain ⟨a5, a6⟩ := h2 _ _ _ a4 e1
    obtain ⟨_, m, e1, h⟩ := bind_ok.mp h
    obtain ⟨a7, a8⟩ := wt_must a6 e1
    obtain ⟨_, m, e1, h⟩ := bind_ok.mp h
    obtain ⟨a9, a10⟩ := h2 _ _ _ a8 e1
    cases h
    exact ⟨by rw [weiT_at]; simp at *; omega, a10⟩
  · split at h
    · obtain ⟨_, m, e1, h⟩ := bind_ok.mp h
      obtain ⟨_, rfl⟩ := enter_ok.mp e1
      obtain ⟨_, m, e1, h⟩ := bind_ok.mp h
      obtain ⟨a1, a2⟩ := h1 _ _ _ g2 e1
      obtain ⟨_, m, e1, h⟩ := bind_ok.mp h
      obtain ⟨a3, a4⟩ := wt_must a2 e1
      obtain ⟨_, m, e1, h⟩ := bind_ok.mp h
      obtain ⟨a5, a6⟩ := h1 _ _ _ a4 e1
      obtain ⟨_, m, e1, h⟩ := bind_ok.mp h
      obtain ⟨a7, a8⟩ := wt_must a6 e1
      obtain ⟨_, m, e1, h⟩ := bind_ok.mp h
      obtain ⟨a9, a10⟩ := h2 _ _ _ a8 e1
      cases h
      exact ⟨by rw [weiT_at]; simp; omega, a10⟩
    · split at h
      · obtain ⟨_, m, e1, h⟩ := bind_ok.mp h
        obtain ⟨_, rfl⟩ := enter_ok.mp e1
        obtain ⟨_, m, e1, h⟩ := bind_ok.mp h
        obtain ⟨a1, a2⟩ := h2 _ _ _ g2 e1
        obtain ⟨_, m, e1, h⟩ := bind_ok.mp h
        obtain ⟨a3, a4⟩ := wt_must a2 e1
        obtain ⟨_, m, e1, h⟩ := bind_ok.mp h
        obtain ⟨a5, a6⟩ := h2 _ _ _ a4 e1
        obtain ⟨_, m, e1, h⟩ := bind_ok.mp h
        obtain ⟨a7, a8⟩ := wt_must a6 e1
        obtain ⟨_, m, e1, h⟩ := bind_ok.mp h
        obtain ⟨a9, a10⟩ := h2 _ _ _ a8 e1
        cases h
        exact ⟨by rw [weiT_at]; simp; omega, a10⟩
      · obtain ⟨_, m, e1, h⟩ := bind_ok.mp h
        obtain ⟨a1, a2⟩ := h3 _ _ _ hi e1
        split at h
        · rename_i ht
          obtain ⟨_, m', e1, h⟩ := bind_ok.mp h
          obtain ⟨a3, a4⟩ := h3 _ _ _ (nxtN_le L _ a2) e1
          have := (isT_gt ht).1
          cases h
          exact ⟨by rw [weiT_at]; simp; omega, a4⟩
        · cases h; exact ⟨a1, a2⟩
theorem wt_read : ∀ k, Wt L weiT (readT L k).1 ∧ Wt L weiT (readT L k).2
  | 0 => ⟨fun _ _ _ _ h => (by cases h), fun _ _ _ _ h => (by cases h)⟩
  | k + 1 => by
    obtain ⟨h1, h2⟩ := wt_read k
    have hp : Wt L weiT (readT L (k + 1)).1 := wt_part h1 h2
    exact ⟨hp, wt_expr (wt_sum h1) h2 (wt_sum hp)⟩
def weiF (f : Fn) : Nat := 1 + f.names.length + weiT f.body
theorem sum_ones {α : Type} (l : List α) : (l.map fun _ => 1).sum = l.length := by induction l with
  | nil => rfl
  | cons x l ih => rw [List.map_cons, List.sum_cons, ih, List.length_cons]; omega
theorem wt_fun : Wt L weiF (funT L) := fun i x j hi h => by
  unfold funT at h
  obtain ⟨_, m, e1, h⟩ := bind_ok.mp h
  obtain ⟨a1, a2⟩ := wt_must hi e1
  obtain ⟨_, m, e1, h⟩ := bind_ok.mp h
  obtain ⟨a3, a4⟩ := wt_name _ _ _ a2 e1
  obtain ⟨ns, m, e1, h⟩ := bind_ok.mp h
  obtain ⟨a5, a6⟩ := wt_list wt_name _ _ _ _ a4 e1
  dsimp only at a3 a5
  rw [sum_ones] at a5
  obtain ⟨_, m, e1, h⟩ := bind_ok.mp h
  obtain ⟨a7, a8⟩ := wt_must a6 e1
  obtain ⟨tb, m, e1, h⟩ := bind_ok.mp h
  obtain ⟨a9, a10⟩ := (wt_read 65).2 _ _ _ a8 e1
  cases h
  exact ⟨by show i + (1 + ns.length + weiT tb) ≤ _; omega, a10⟩
theorem wt_funs : ∀ n acc i fs j, i ≤ L.length → funsT L n acc i = .ok fs j → i + (fs.map weiF).sum ≤ j + (acc.map weiF).sum ∧ j ≤ L.length
  | 0, _, _, _, _, _, h => by cases h
  | n + 1, acc, i, fs, j, hi, h => by
    rw [funsT] at h
    split at h
    · cases h; exact ⟨by omega, hi⟩
    · obtain ⟨y, m, h2, h3⟩ := bind_ok.mp h
      obtain ⟨a1, a2⟩ := wt_fun _ _ _ hi h2
      obtain ⟨a3, a4⟩ := wt_funs n _ _ _ _ a2 h3
      simp at a3
      exact ⟨by omega, a4⟩
end
end Go.Att
end
section
namespace Go.Att
theorem parse_ok {l : List UInt8} {fs : List Fn} {j : Nat} (h : parseT l = .ok fs j) : (∀ f ∈ fs, FnOk f) ∧ (fs.map weiF).sum ≤ 4000 := by
  unfold parseT at h
  split at h
  · cases h
  · obtain ⟨fs', m, h1, h2⟩ := bind_ok.mp h
    split at h2
    · cases h2
    · cases h2
      have h3 := wt_funs _ _ _ _ _ (Nat.zero_le _) h1
      exact ⟨funs_fit _ _ _ _ _ (by simp) h1, by simp at h3; omega⟩
theorem weiP_le {fs : List Fn} : weiP fs ≤ (fs.map weiF).sum := by
  unfold weiP
  induction fs with
  | nil => simp
  | cons f fs ih => rw [List.map_cons, List.map_cons, List.sum_cons, List.sum_cons]; unfold weiF at ih ⊢; omega
def txA : List UInt8 := [102,110,32,109,97,105,110,40,41,61,40,49,45,40,50,45,51,41,41,42,45,40,52,43,53,41]
def txB : List UInt8 := [102,110,32,109,97,105,110,40,41,32,61,32,40,49,32,45,32,40,50,32,45,32,51,41,41,32,42,32,45,40,52,32,43,32,53,41,10]
def fsA : List Fn := match parseT txA with
  | .ok fs _ => fs
  | .bad _ _ => []
end Go.Att
end
section
namespace Go.Att
theorem txA_ok : ∃ j, parseT txA = .ok fsA j := by
  have h : (match parseT txA with | .ok _ _ => true | .bad _ _ => false) = true := by kernel_rfl
  unfold fsA
  cases e : parseT txA with
  | ok fs j => exact ⟨j, rfl⟩
  | bad a b => rw [e] at h; cases h
theorem fsA_is : fsA = [⟨[109, 97, 105, 110], 3, [], (.mk 4 0 [] [(.mk 3 0 [] [(.mk 0 1 [] [] 11), (.mk 3 0 [] [(.mk 0 2 [] [] 14), (.mk 0 3 [] [] 16)] 15)] 12), (.mk 7 0 [] [(.mk 2 0 [] [(.mk 0 4 [] [] 22), (.mk 0 5 [] [] 24)] 23)] 20)] 19)⟩] := by kernel_rfl
theorem itoa_small (n : Nat) (h : n < 10) : Lib.itoa n = [UInt8.ofNat (48 + n)] := by
  rw [itoa_nn n (by omega)]
  exact Lib.decDigits_one h
theorem txB_is : prP fsA = txB := by
  have h1 := itoa_small 1 (by omega)
  have h2 := itoa_small 2 (by omega)
  have h3 := itoa_small 3 (by omega)
  have h4 := itoa_small 4 (by omega)
  have h5 := itoa_small 5 (by omega)
  rw [fsA_is]
  simp [prP, prF, prT_mk, bodyT, lvT, signT, commaT]
  simp at h1 h2 h3 h4 h5
  rw [h1, h2, h3, h4, h5]
  rfl
end Go.Att
end
