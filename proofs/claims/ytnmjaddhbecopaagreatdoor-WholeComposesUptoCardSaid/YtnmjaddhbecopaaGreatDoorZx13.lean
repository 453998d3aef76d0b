/- A voucher as bytes: numbers seven bits a byte, lists, openings; written and read again; read and written again. No program in sight. Words for worlds: a slice that the call grows, whose elements may hold slices made meanwhile. No program in sight. -/
import Derived.Test.YtnmjaddhbecopaaGreatDoorVc
section
namespace Go.Att
open Go.RowKit
/-- A number's bytes. -/
def encU (u : Nat) : List Int := if u < 128 then [(u : Int)] else ((u % 128 + 128 : Nat) : Int) :: encU (u / 128)
termination_by u
decreasing_by omega
/-- What is read from bytes as one number, with s bits behind, u their number. -/
def rdU : Nat → Nat → List Int → Option (Nat × List Int)
  | _, _, [] => none
  | s, u, c :: t => if 63 < s then none else if (s = 63 ∧ 1 < c) ∨ (0 < s ∧ c = 0) then none
    else if c < 128 then some (u + c.toNat % 128 * 2 ^ s, t) else rdU (s + 7) (u + c.toNat % 128 * 2 ^ s) t
def BytesIn (b : List Int) : Prop := ∀ c ∈ b, 0 ≤ c ∧ c < 256
theorem rdU_back : ∀ (b : List Int) (k u v : Nat) (t : List Int), BytesIn b → rdU (7 * k) u b = some (v, t) → ∃ q, v = u + q * 2 ^ (7 * k) ∧ b = encU q ++ t ∧ (0 < k → q ≠ 0) ∧ (q + 1) * 2 ^ (7 * k) ≤ 2 ^ 64
  | [], k, u, v, t, _, h => by simp [rdU] at h
  | c :: b, k, u, v, t, hb, h => by
    obtain ⟨c0, c1⟩ := hb c (by simp)
    rw [rdU] at h
    split at h
    · cases h
    · rename_i h63
      split at h
      · cases h
      · rename_i hno
        simp only [not_or, not_and] at hno
        split at h
        · rename_i hc
          simp only [Option.some.injEq, Prod.mk.injEq] at h
          obtain ⟨rfl, rfl⟩ := h
          have e : c.toNat % 128 = c.toNat := Nat.mod_eq_of_lt (by omega)
          refine ⟨c.toNat, by rw [e], ?_, ?_, ?_⟩
          · rw [encU, if_pos (by omega), Int.toNat_of_nonneg c0]; rfl
          · intro hk hq; exact hno.2 (by omega) (by omega)
          · by_cases h9 : 7 * k = 63
            · have h10 := hno.1 h9
              rw [h9]
              have : c.toNat + 1 ≤ 2 := by omega
              calc (c.toNat + 1) * 2 ^ 63 ≤ 2 * 2 ^ 63 := Nat.mul_le_mul_right _ this
                _ = 2 ^ 64 := by decide
            · have h11 : (2 : Nat) ^ (7 * k) ≤ 2 ^ 56 := Nat.pow_le_pow_right (by decide) (by omega)
              calc (c.toNat + 1) * 2 ^ (7 * k) ≤ 128 * 2 ^ 56 := Nat.mul_le_mul (by omega) h11
                _ ≤ 2 ^ 64 := by decide
        · rename_i hc
          have h' : rdU (7 * (k + 1)) (u + c.toNat % 128 * 2 ^ (7 * k)) b = some (v, t) := by rw [Nat.mul_succ]; exact h
          obtain ⟨q, e1, e2, e3, e4⟩ := rdU_back b (k + 1) _ v t (fun x hx => hb x (by simp [hx])) h'
          have hq := e3 (by omega)
          have e7 : (2 : Nat) ^ (7 * (k + 1)) = 128 * 2 ^ (7 * k) := by rw [Nat.mul_succ, Nat.pow_add]; omega
          rw [e7] at e1 e4
          refine ⟨c.toNat % 128 + 128 * q, ?_, ?_, fun _ => by omega, ?_⟩
          · rw [e1, Nat.add_mul, Nat.add_assoc]; congr 2; rw [Nat.mul_assoc, Nat.mul_comm q, Nat.mul_comm q, Nat.mul_assoc]
          · rw [encU, if_neg (by omega), e2]
            have h1 : (c.toNat % 128 + 128 * q) % 128 + 128 = c.toNat := by omega
            have h2 : (c.toNat % 128 + 128 * q) / 128 = q := by omega
            rw [h1, h2, Int.toNat_of_nonneg c0]; rfl
          · refine Nat.le_trans (Nat.mul_le_mul_right _ (show c.toNat % 128 + 128 * q + 1 ≤ (q + 1) * 128 by omega)) ?_
            rw [Nat.mul_assoc]; exact e4
theorem rdU_forth : ∀ (q k u : Nat) (t : List Int), k ≤ 9 → q < 2 ^ (64 - 7 * k) → (0 < k → q ≠ 0) → rdU (7 * k) u (encU q ++ t) = some (u + q * 2 ^ (7 * k), t) := by
  intro q
  induction q using Nat.strongRecOn with
  | _ q ih =>
    intro k u t h9 h hz
    rw [encU]
    by_cases hq : q < 128
    · rw [if_pos hq, List.singleton_append, rdU, if_neg (by omega), if_neg, if_pos (by omega)]
      · rw [Int.toNat_natCast, Nat.mod_eq_of_lt hq]
      · rintro (⟨h1, h2⟩ | ⟨h1, h2⟩)
        · rw [h1] at h; simp at h; omega
        · exact hz (by omega) (by omega)
    · have h8 : k ≤ 8 := by
        apply Classical.byContradiction
        intro hc
        obtain rfl : k = 9 := by omega
        simp at h; omega
      have e8 : (2 : Nat) ^ (64 - 7 * k) = 128 * 2 ^ (64 - 7 * (k + 1)) := by
        rw [show 64 - 7 * k = 7 + (64 - 7 * (k + 1)) by omega, Nat.pow_add]
      rw [if_neg hq, List.cons_append, rdU, if_neg (by omega), if_neg, if_neg (by omega)]
      · rw [Int.toNat_natCast, show (q % 128 + 128) % 128 = q % 128 by omega, ← Nat.mul_succ]
        have e7 : (2 : Nat) ^ (7 * (k + 1)) = 128 * 2 ^ (7 * k) := by rw [Nat.mul_succ, Nat.pow_add]; omega
        rw [ih (q / 128) (by omega) (k + 1) _ t (by omega) (Nat.div_lt_of_lt_mul (by rw [← e8]; exact h)) (fun _ => by omega)]
        rw [e7, Nat.add_assoc, ← Nat.mul_assoc, ← Nat.add_mul]; congr 4; omega
      · rintro (⟨h1, h2⟩ | ⟨h1, h2⟩) <;> omega
theorem encU_pos (u : Nat) : 1 ≤ (encU u).length := by rw [encU]; split <;> simp
theorem encU_len : ∀ (n u : Nat), u < 128 ^ (n + 1) → (encU u).length ≤ n + 1
  | 0, u, h => by rw [encU, if_pos (by omega)]; simp
  | n + 1, u, h => by
    rw [encU]; split
    · simp
    · have := encU_len n (u / 128) (by rw [Nat.pow_succ] at h; exact Nat.div_lt_of_lt_mul (by rw [Nat.mul_comm]; exact h))
      simpa using this
theorem encU_ten (u : Nat) (h : u < 2 ^ 64) : (encU u).length ≤ 10 := encU_len 9 u (Nat.lt_of_lt_of_le h (by decide))
theorem encU_in (u : Nat) : BytesIn (encU u) := by
  induction u using Nat.strongRecOn with
  | _ u ih =>
    rw [encU]; split
    · intro c hc; simp at hc; omega
    · intro c hc
      simp only [List.mem_cons] at hc
      rcases hc with rfl | hc
      · omega
      · exact ih (u / 128) (by omega) c hc
/-- A number of 64 bits, as it is counted. -/
def u64 (x : Int) : Nat := (x % 18446744073709551616).toNat
theorem u64_lt (x : Int) : u64 x < 2 ^ 64 := by unfold u64; omega
def I64 (x : Int) : Prop := -9223372036854775808 ≤ x ∧ x ≤ 9223372036854775807
theorem i64_u64 {x : Int} (h : I64 x) : wrap64 (u64 x) = x := by unfold u64 wrap64 I64 at *; omega
theorem u64_i64 (u : Nat) (h : u < 2 ^ 64) : u64 (wrap64 u) = u := by unfold u64 wrap64 at *; omega
theorem i64_wrap (x : Int) : I64 (wrap64 x) := by unfold wrap64 I64; omega
/-- A number's bytes; a number that is read. -/
def encI (x : Int) : List Int := encU (u64 x)
def rdI (b : List Int) : Option (Int × List Int) := (rdU 0 0 b).map fun q => (wrap64 q.1, q.2)
theorem rdI_back {b t : List Int} {x : Int} (hb : BytesIn b) (h : rdI b = some (x, t)) : b = encI x ++ t ∧ I64 x := by
  unfold rdI at h
  rw [Option.map_eq_some_iff] at h
  obtain ⟨⟨v, t'⟩, h1, h2⟩ := h
  simp only [Prod.mk.injEq] at h2
  obtain ⟨rfl, rfl⟩ := h2
  obtain ⟨q, e1, e2, _, e4⟩ := rdU_back b 0 0 v t' hb h1
  have : v = q := by simpa using e1
  subst this
  refine ⟨?_, i64_wrap _⟩
  rw [encI, u64_i64 _ (by simp at e4; omega)]; exact e2
theorem rdI_forth {x : Int} (h : I64 x) (t : List Int) : rdI (encI x ++ t) = some (x, t) := by
  have h1 := u64_lt x
  have := rdU_forth (u64 x) 0 0 t (by omega) (by simp; omega) (fun h => absurd h (by omega))
  unfold rdI encI
  rw [show (7 * 0 : Nat) = 0 from rfl] at this
  rw [this]
  simp [i64_u64 h]

section
variable {α : Type}
/-- So many, one behind the other. -/
def rdN (one : List Int → Option (α × List Int)) : Nat → List Int → Option (List α × List Int)
  | 0, b => some ([], b)
  | n + 1, b => (one b).bind fun q => (rdN one n q.2).map fun p => (q.1 :: p.1, p.2)
def rdL (one : List Int → Option (α × List Int)) (b : List Int) : Option (List α × List Int) :=
  (rdI b).bind fun q => if q.1 < 0 ∨ (q.2.length : Int) < q.1 then none else rdN one q.1.toNat q.2
def encL (e : α → List Int) (l : List α) : List Int := encI l.length ++ l.flatMap e
theorem BytesIn.right {a b : List Int} (h : BytesIn (a ++ b)) : BytesIn b := fun c hc => h c (by simp [hc])
/-- What reads, if anything, is what it is written as. -/
def Back (one : List Int → Option (α × List Int)) (e : α → List Int) (V : α → Prop) : Prop := ∀ b x t, BytesIn b → one b = some (x, t) → b = e x ++ t ∧ V x
def Forth (one : List Int → Option (α × List Int)) (e : α → List Int) (V : α → Prop) : Prop := ∀ x t, V x → one (e x ++ t) = some (x, t)
theorem rdN_back {one : List Int → Option (α × List Int)} {e : α → List Int} {V : α → Prop} (h : Back one e V) : ∀ n b l t, BytesIn b → rdN one n b = some (l, t) → b = l.flatMap e ++ t ∧ l.length = n ∧ ∀ x ∈ l, V x
  | 0, b, l, t, _, hr => by simp [rdN] at hr; obtain ⟨rfl, rfl⟩ := hr; simp
  | n + 1, b, l, t, hb, hr => by
    simp only [rdN, Option.bind_eq_some_iff, Option.map_eq_some_iff, Prod.exists, Prod.mk.injEq] at hr
    obtain ⟨x, b', h1, l', t', h2, rfl, rfl⟩ := hr
    obtain ⟨rfl, hv⟩ := h b x b' hb h1
    obtain ⟨rfl, h3, h4⟩ := rdN_back h n b' l' t' hb.right h2
    refine ⟨by simp, by simp [h3], ?_⟩
    intro y hy
    simp only [List.mem_cons] at hy
    rcases hy with rfl | hy
    · exact hv
    · exact h4 y hy
theorem rdN_forth {one : List Int → Option (α × List Int)} {e : α → List Int} {V : α → Prop} (h : Forth one e V) : ∀ (l : List α) t, (∀ x ∈ l, V x) → rdN one l.length (l.flatMap e ++ t) = some (l, t)
  | [], t, _ => by simp [rdN]
  | x :: l, t, hv => by
    simp only [List.length_cons, rdN, List.flatMap_cons, List.append_assoc]
    rw [h x _ (hv x (by simp)), Option.bind_some, rdN_forth h l t (fun y hy => hv y (by simp [hy]))]
    rfl
theorem u64_nat (n : Nat) (h : n < 2 ^ 64) : u64 n = n := by unfold u64; omega
theorem encI_pos (x : Int) : 1 ≤ (encI x).length := encU_pos _
theorem rdL_back {one : List Int → Option (α × List Int)} {e : α → List Int} {V : α → Prop} (h : Back one e V) : Back (rdL one) (encL e) (fun l => (l.length : Int) ≤ 9223372036854775807 ∧ ∀ x ∈ l, V x) := by
  intro b l t hb hr
  simp only [rdL, Option.bind_eq_some_iff, Prod.exists] at hr
  obtain ⟨n, b', h1, h2⟩ := hr
  obtain ⟨rfl, hi⟩ := rdI_back hb h1
  split at h2
  · cases h2
  · rename_i hc
    obtain ⟨rfl, h3, h4⟩ := rdN_back h _ _ _ _ hb.right h2
    have : (l.length : Int) = n := by omega
    refine ⟨by rw [encL, this, List.append_assoc], by unfold I64 at hi; omega, h4⟩
theorem flat_len {e : α → List Int} {V : α → Prop} (he : ∀ x, V x → 1 ≤ (e x).length) : ∀ l : List α, (∀ x ∈ l, V x) → l.length ≤ (l.flatMap e).length
  | [], _ => by simp
  | x :: l, hv => by
    have h1 := he x (hv x (by simp))
    have h2 := flat_len he l (fun y hy => hv y (by simp [hy]))
    simp only [List.length_cons, List.flatMap_cons, List.length_append]; omega
theorem rdL_forth {one : List Int → Option (α × List Int)} {e : α → List Int} {V : α → Prop} (h : Forth one e V) (he : ∀ x, V x → 1 ≤ (e x).length) : Forth (rdL one) (encL e) (fun l => (l.length : Int) ≤ 9223372036854775807 ∧ ∀ x ∈ l, V x) := by
  intro l t hv
  unfold rdL encL
  rw [List.append_assoc, rdI_forth (by unfold I64; omega), Option.bind_some]
  have h1 := flat_len he l hv.2
  dsimp only
  rw [if_neg (by rw [List.length_append]; omega), Int.toNat_natCast]
  exact rdN_forth h l t hv.2
end
abbrev Opn := List Int × List (List Int) × List (List Int)
def encIs : List Int → List Int := encL encI
def encRs : List (List Int) → List Int := encL encIs
def encO (o : Opn) : List Int := encIs o.1 ++ encRs o.2.1 ++ encRs o.2.2
def rdIs : List Int → Option (List Int × List Int) := rdL rdI
def rdRs : List Int → Option (List (List Int) × List Int) := rdL rdIs
def rdO (b : List Int) : Option (Opn × List Int) := (rdIs b).bind fun p => (rdRs p.2).bind fun q => (rdRs q.2).map fun r => ((p.1, q.1, r.1), r.2)
def IsV (l : List Int) : Prop := (l.length : Int) ≤ 9223372036854775807 ∧ ∀ x ∈ l, I64 x
def RsV (l : List (List Int)) : Prop := (l.length : Int) ≤ 9223372036854775807 ∧ ∀ x ∈ l, IsV x
def OpV (o : Opn) : Prop := IsV o.1 ∧ RsV o.2.1 ∧ RsV o.2.2
theorem rdIs_back : Back rdIs encIs IsV := rdL_back fun _ _ _ hb h => rdI_back hb h
theorem rdRs_back : Back rdRs encRs RsV := rdL_back rdIs_back
theorem rdIs_forth : Forth rdIs encIs IsV := rdL_forth (fun _ t h => rdI_forth h t) (fun x _ => encI_pos x)
theorem encL_pos {α : Type} (e : α → List Int) (l : List α) : 1 ≤ (encL e l).length := by unfold encL; have := encI_pos l.length; rw [List.length_append]; omega
theorem rdRs_forth : Forth rdRs encRs RsV := rdL_forth rdIs_forth (fun l _ => encL_pos _ l)
theorem rdO_back : Back rdO encO OpV := by
  intro b o t hb h
  simp only [rdO, Option.bind_eq_some_iff, Option.map_eq_some_iff, Prod.exists, Prod.mk.injEq] at h
  obtain ⟨l, b1, h1, r, b2, h2, s, b3, h3, rfl, rfl⟩ := h
  obtain ⟨rfl, v1⟩ := rdIs_back _ _ _ hb h1
  obtain ⟨rfl, v2⟩ := rdRs_back _ _ _ hb.right h2
  obtain ⟨rfl, v3⟩ := rdRs_back _ _ _ hb.right.right h3
  exact ⟨by simp [encO], v1, v2, v3⟩
theorem rdO_forth : Forth rdO encO OpV := by
  intro o t ⟨v1, v2, v3⟩
  unfold rdO encO
  rw [List.append_assoc, List.append_assoc, rdIs_forth _ _ v1, Option.bind_some]
  dsimp only
  rw [rdRs_forth _ _ v2, Option.bind_some]
  dsimp only
  rw [rdRs_forth _ _ v3]; rfl
theorem encO_pos (o : Opn) : 1 ≤ (encO o).length := by unfold encO encIs; have := encL_pos encI o.1; rw [List.length_append, List.length_append]; omega
def encOs : List Opn → List Int := encL encO
def rdOs : List Int → Option (List Opn × List Int) := rdL rdO
def OsV (l : List Opn) : Prop := (l.length : Int) ≤ 9223372036854775807 ∧ ∀ x ∈ l, OpV x
theorem rdOs_back : Back rdOs encOs OsV := rdL_back rdO_back
theorem rdOs_forth : Forth rdOs encOs OsV := rdL_forth rdO_forth (fun o _ => encO_pos o)
structure Vch where
  main : List Int
  aux : List Int
  tries : Int
  roots : List (List Int)
  last : List Int
  opens : List Opn
  rows : Opn
  fin : Opn
def encV (v : Vch) : List Int := encIs v.main ++ encIs v.aux ++ encI v.tries ++ encRs v.roots ++ encIs v.last ++ encOs v.opens ++ encO v.rows ++ encO v.fin
def rdV (b : List Int) : Option (Vch × List Int) :=
  (rdIs b).bind fun a => (rdIs a.2).bind fun c => (rdI c.2).bind fun d => (rdRs d.2).bind fun e => (rdIs e.2).bind fun f => (rdOs f.2).bind fun g => (rdO g.2).bind fun h => (rdO h.2).map fun i =>
    (⟨a.1, c.1, d.1, e.1, f.1, g.1, h.1, i.1⟩, i.2)
def VcV (v : Vch) : Prop := IsV v.main ∧ IsV v.aux ∧ I64 v.tries ∧ RsV v.roots ∧ IsV v.last ∧ OsV v.opens ∧ OpV v.rows ∧ OpV v.fin
theorem rdV_back : Back rdV encV VcV := by
  intro b v t hb h
  simp only [rdV, Option.bind_eq_some_iff, Option.map_eq_some_iff, Prod.exists, Prod.mk.injEq] at h
  obtain ⟨l1, b1, h1, l2, b2, h2, l3, b3, h3, l4, b4, h4, l5, b5, h5, l6, b6, h6, o1, o2, o3, b7, h7, o4, o5, o6, b8, h8, rfl, rfl⟩ := h
  obtain ⟨rfl, v1⟩ := rdIs_back _ _ _ hb h1
  replace hb := hb.right
  obtain ⟨rfl, v2⟩ := rdIs_back _ _ _ hb h2
  replace hb := hb.right
  obtain ⟨rfl, v3⟩ := rdI_back hb h3
  replace hb := hb.right
  obtain ⟨rfl, v4⟩ := rdRs_back _ _ _ hb h4
  replace hb := hb.right
  obtain ⟨rfl, v5⟩ := rdIs_back _ _ _ hb h5
  replace hb := hb.right
  obtain ⟨rfl, v6⟩ := rdOs_back _ _ _ hb h6
  replace hb := hb.right
  obtain ⟨rfl, v7⟩ := rdO_back _ _ _ hb h7
  obtain ⟨rfl, v8⟩ := rdO_back _ _ _ hb.right h8
  exact ⟨by simp [encV], v1, v2, v3, v4, v5, v6, v7, v8⟩
theorem rdV_forth : Forth rdV encV VcV := by
  intro v t ⟨v1, v2, v3, v4, v5, v6, v7, v8⟩
  unfold rdV encV
  simp only [List.append_assoc]
  rw [rdIs_forth _ _ v1, Option.bind_some]; dsimp only
  rw [rdIs_forth _ _ v2, Option.bind_some]; dsimp only
  rw [rdI_forth v3, Option.bind_some]; dsimp only
  rw [rdRs_forth _ _ v4, Option.bind_some]; dsimp only
  rw [rdIs_forth _ _ v5, Option.bind_some]; dsimp only
  rw [rdOs_forth _ _ v6, Option.bind_some]; dsimp only
  rw [rdO_forth _ _ v7, Option.bind_some]; dsimp only
  rw [rdO_forth _ _ v8]; rfl
end Go.Att
end
section
namespace Go.Att
open Go.RowKit
/-- In blocks from X on, below Y. -/
def InB (X Y : Nat) (v : Value) : Prop := ∀ k, v.ownBlock = some k → X ≤ k ∧ k < Y
theorem InB.mono {X Y X' Y' : Nat} {v : Value} (h : InB X Y v) (h1 : X' ≤ X) (h2 : Y ≤ Y') : InB X' Y' v := fun k hk => by have := h k hk; omega
/-- What reads its elements: it may be carried over a change elsewhere. -/
structure Rdg (α : Type) where
  sat : Nat → Nat → World → α → List Value → Prop
  keep : ∀ {X Y : Nat} {w w' : World} {x : α} {cs : List Value} {b : Option Nat}, sat X Y w x cs → w.grownBy w' b → (∀ k, b = some k → k < X ∨ Y ≤ k) → sat X Y w' x cs
  wide : ∀ {X Y X' Y' : Nat} {w : World} {x : α} {cs : List Value}, sat X Y w x cs → X' ≤ X → Y ≤ Y' → sat X' Y' w x cs
/-- A slice of its own (from block B on) that reads as l. -/
structure Lst {α : Type} (ρ : Rdg α) (B : Nat) (w : World) (e sz : Nat) (v : Value) (l : List α) (E : Nat → List Value) : Prop where
  own : w.ownsRow B e sz v l.length ((List.range l.length).flatMap E)
  each : ∀ i (h : i < l.length), ∃ X Y, B ≤ X ∧ Y ≤ w.heap.size ∧ (∀ k, v.ownBlock = some k → k < X ∨ Y ≤ k) ∧ ρ.sat X Y w l[i] (E i)
section
variable {α : Type} {ρ : Rdg α} {B : Nat} {w w' : World} {e sz : Nat} {v : Value} {l : List α} {E : Nat → List Value}
theorem Lst.nil (B : Nat) (w : World) (e sz : Nat) (h : w.ownsRow B e sz v 0 []) : Lst ρ B w e sz v [] E := ⟨h, fun i hi => by simp at hi⟩
theorem Lst.low (h : Lst ρ B w e sz v l E) {q : Nat} (hg : w.grownBy w' (some q)) (hq : q < B) : Lst ρ B w' e sz v l E :=
  ⟨own_low h.own hg hq, fun i hi => by
    obtain ⟨X, Y, h1, h2, h3, h4⟩ := h.each i hi
    exact ⟨X, Y, h1, Nat.le_trans h2 hg.size, h3, ρ.keep h4 hg (fun k hk => by have := Option.some.inj hk; omega)⟩⟩
theorem Lst.ext (h : Lst ρ B w e sz v l E) (hx : Ext w w') : Lst ρ B w' e sz v l E :=
  ⟨own_ext h.own hx, fun i hi => by
    obtain ⟨X, Y, h1, h2, h3, h4⟩ := h.each i hi
    exact ⟨X, Y, h1, Nat.le_trans h2 hx.size, h3, ρ.keep h4 (hx.grownBy none) (fun k hk => by cases hk)⟩⟩
theorem flatMap_if (n : Nat) (E : Nat → List Value) (cs : List Value) : (List.range (n + 1)).flatMap (fun i => if i < n then E i else cs) = (List.range n).flatMap E ++ cs := by
  rw [List.range_succ, List.flatMap_append]
  have h1 : (List.range n).flatMap (fun i => if i < n then E i else cs) = (List.range n).flatMap E := by
    rw [List.flatMap_def, List.flatMap_def]
    congr 1
    exact List.map_congr_left fun i hi => by rw [if_pos (List.mem_range.1 hi)]
  rw [h1]; simp
theorem Lst.push (h : Lst ρ B w e sz v l E) {v' : Value} {x : α} {cs : List Value} {X Y : Nat} (hX : B ≤ X) (hY : Y ≤ w.heap.size) (hv : ∀ k, v.ownBlock = some k → k < X ∨ Y ≤ k) (hs : ρ.sat X Y w x cs)
    (ho : w'.ownsRow B e sz v' (l.length + 1) ((List.range l.length).flatMap E ++ cs)) (hg : w.grownBy w' v.ownBlock) (hm : Moved w v v') : Lst ρ B w' e sz v' (l ++ [x]) (fun i => if i < l.length then E i else cs) := by
  have far : ∀ X Y, Y ≤ w.heap.size → (∀ k, v.ownBlock = some k → k < X ∨ Y ≤ k) → ∀ k, v'.ownBlock = some k → k < X ∨ Y ≤ k := by
    intro X Y hY hv k hk
    rcases hm with hm | hm
    · exact hv k (by rw [← hm]; exact hk)
    · exact .inr (Nat.le_trans hY (hm k hk))
  refine ⟨by rw [List.length_append, List.length_singleton, flatMap_if]; exact ho, fun i hi => ?_⟩
  by_cases h1 : i < l.length
  · obtain ⟨X', Y', g1, g2, g3, g4⟩ := h.each i h1
    refine ⟨X', Y', g1, Nat.le_trans g2 hg.size, far X' Y' g2 g3, ?_⟩
    rw [if_pos h1, List.getElem_append_left h1]
    exact ρ.keep g4 hg g3
  · refine ⟨X, Y, hX, Nat.le_trans hY hg.size, far X Y hY hv, ?_⟩
    rw [if_neg h1]
    have : (l ++ [x])[i] = x := by rw [List.getElem_append_right (by omega)]; simp
    rw [this]
    exact ρ.keep hs hg hv
/-- What is grown beside it. -/
theorem grown_own {W : World} {q : Nat} {n : Nat} {xs : List Value} (h : W.grownBy w (some q)) (ho : w.ownsRow W.heap.size e sz v n xs) (k : w.grownBy w' v.ownBlock) : W.grownBy w' (some q) :=
  ⟨k.os.trans h.os, k.tape.trans h.tape, k.output.trans h.output, Nat.le_trans h.size k.size, fun p hp hne => by
    rw [k.block p (Nat.lt_of_lt_of_le hp h.size) (fun hc => by have := (ho.lt p hc.symm).1; omega)]; exact h.block p hp hne⟩
end
/-- Numbers, as elements. -/
def rgInt : Rdg Int where
  sat := fun _ _ _ x cs => cs = [.int .i64 x]
  keep := fun h _ _ => h
  wide := fun h _ _ => h
/-- Slices of numbers, as elements. -/
def rgInts : Rdg (List Int) where
  sat := fun X Y w l cs => ∃ u, cs = [u] ∧ Ints w u l ∧ InB X Y u
  keep := by
    rintro X Y w w' x cs b ⟨u, rfl, hu, hb⟩ hg hf
    exact ⟨u, rfl, hu.grown hg (fun k hk hc => by have := hb k hk; have := hf k hc.symm; omega), hb⟩
  wide := by
    rintro X Y X' Y' w x cs ⟨u, rfl, hu, hb⟩ h1 h2
    exact ⟨u, rfl, hu, hb.mono h1 h2⟩
theorem Lst.ints {B : Nat} {w : World} {e : Nat} {v : Value} {l : List Int} {E : Nat → List Value} (h : Lst rgInt B w e 1 v l E) : w.ownsRow B e 1 v l.length (l.map (Value.int .i64)) := by
  have : (List.range l.length).flatMap E = l.map (Value.int .i64) := by
    have h1 : (List.range l.length).flatMap E = (List.range l.length).flatMap fun i => [.int .i64 (nth l i)] := by
      rw [List.flatMap_def, List.flatMap_def]
      congr 1
      refine List.map_congr_left fun i hi => ?_
      have hi' := List.mem_range.1 hi
      obtain ⟨X, Y, _, _, _, h4⟩ := h.each i hi'
      rw [nth_eq hi']; exact h4
    rw [h1]
    apply List.ext_getElem?
    intro i
    have h2 : (List.range l.length).flatMap (fun i => [Value.int .i64 (nth l i)]) = (List.range l.length).map fun i => Value.int .i64 (nth l i) := by
      rw [List.flatMap_def]; induction (List.range l.length) <;> simp_all
    rw [h2]
    by_cases hi : i < l.length
    · simp [hi, nth_eq hi]
    · rw [List.getElem?_eq_none (by simp; omega), List.getElem?_eq_none (by simp; omega)]
  rw [← this]; exact h.own
theorem Lst.rws {B : Nat} {w : World} {e : Nat} {v : Value} {l : List (List Int)} {E : Nat → List Value} (h : Lst rgInts B w e 1 v l E) : ∃ R, RwsAt w v l R ∧ ∀ i, i < l.length → InB B w.heap.size (R i) := by
  have hex : ∀ i, ∃ u, i < l.length → E i = [u] ∧ Ints w u (nthL l i) ∧ InB B w.heap.size u := by
    intro i
    by_cases hi : i < l.length
    · obtain ⟨X, Y, h1, h2, _, u, hu, hI, hb⟩ := h.each i hi
      exact ⟨u, fun _ => ⟨hu, by rw [nthL_eq hi]; exact hI, hb.mono h1 h2⟩⟩
    · exact ⟨.bool false, fun hc => absurd hc hi⟩
  refine ⟨fun i => Classical.choose (hex i), ⟨?_, fun i hi => ((Classical.choose_spec (hex i)) hi).2.1⟩, fun i hi => ((Classical.choose_spec (hex i)) hi).2.2⟩
  have h2 : (List.range l.length).flatMap E = (List.range l.length).map fun i => Classical.choose (hex i) := by
    have h1 : (List.range l.length).flatMap E = (List.range l.length).flatMap fun i => [Classical.choose (hex i)] := by
      rw [List.flatMap_def, List.flatMap_def]
      congr 1
      exact List.map_congr_left fun i hi => ((Classical.choose_spec (hex i)) (List.mem_range.1 hi)).1
    rw [h1, List.flatMap_def]; induction (List.range l.length) <;> simp_all
  have := Sl.of_own h.own (by omega)
  rw [h2] at this
  exact this
end Go.Att
namespace Go.Att
theorem own_lower {w : World} {B B' e sz n : Nat} {v : Value} {xs : List Value} (h : w.ownsRow B e sz v n xs) (hb : B' ≤ B) : w.ownsRow B' e sz v n xs := by
  refine ⟨h.1, ?_⟩
  rcases h.2 with h2 | ⟨g, cap, cur, hv, hbg, hr⟩
  · exact .inl h2
  · exact .inr ⟨g, cap, cur, hv, Nat.le_trans hb hbg, hr⟩
theorem own_shape3 {w : World} {B e sz n : Nat} {v : Value} {xs : List Value} (h : w.ownsRow B e sz v n xs) : ∃ ao cap, v = .slice ao n cap := by
  obtain ⟨h1, h2⟩ := h
  rcases h2 with ⟨rfl, rfl⟩ | ⟨g, cap, cur, rfl, _⟩
  · exact ⟨_, _, rfl⟩
  · exact ⟨_, _, rfl⟩
/-- Openings' slices, as elements. -/
def rgOpn : Rdg (List Int × List (List Int) × List (List Int)) where
  sat := fun X Y w o cs => ∃ a b c R S, cs = [a, b, c] ∧ Ints w a o.1 ∧ InB X Y a ∧ RwsAt w b o.2.1 R ∧ InB X Y b ∧ (∀ i, i < o.2.1.length → InB X Y (R i)) ∧ RwsAt w c o.2.2 S ∧ InB X Y c ∧ (∀ i, i < o.2.2.length → InB X Y (S i))
  keep := by
    rintro X Y w w' x cs bb ⟨a, b, c, R, S, rfl, h1, h2, h3, h4, h5, h6, h7, h8⟩ hg hf
    have far : ∀ v, InB X Y v → ∀ k, v.ownBlock = some k → some k ≠ bb := fun v hv k hk hc => by have := hv k hk; have := hf k hc.symm; omega
    exact ⟨a, b, c, R, S, rfl, h1.grown hg (far a h2), h2, ⟨h3.sl.grown hg (far b h4), fun i hi => (h3.row i hi).grown hg (far _ (h5 i hi))⟩, h4, h5, ⟨h6.sl.grown hg (far c h7), fun i hi => (h6.row i hi).grown hg (far _ (h8 i hi))⟩, h7, h8⟩
  wide := by
    rintro X Y X' Y' w x cs ⟨a, b, c, R, S, rfl, h1, h2, h3, h4, h5, h6, h7, h8⟩ g1 g2
    exact ⟨a, b, c, R, S, rfl, h1, h2.mono g1 g2, h3, h4.mono g1 g2, fun i hi => (h5 i hi).mono g1 g2, h6, h7.mono g1 g2, fun i hi => (h8 i hi).mono g1 g2⟩
end Go.Att
end
