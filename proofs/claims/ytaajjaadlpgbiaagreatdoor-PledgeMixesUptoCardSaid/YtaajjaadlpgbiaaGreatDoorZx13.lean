/- A copy of a list; a polynomial's end: contracts. By halves: what spread comes to is what the polynomial is at the powers of a root: plain laws. No program in sight. A word's coefficients; is it a codeword?: contracts. -/
import Derived.Test.YtaajjaadlpgbiaaGreatDoorZx12
import Derived.Test.YtaajjaadlpgbiaaGreatDoorHb
import Derived.Test.YtaajjaadlpgbiaaGreatDoorLa
import Derived.Test.YtaajjaadlpgbiaaGreatDoorZx11
section
namespace Go.Att
open Go.RowKit
theorem degN_bd (p : Int) (a : List Int) (k : Nat) : degN p a ≤ k ↔ ∀ j, k ≤ j → j < a.length → nth a j % p = 0 := by
  induction a generalizing k with
  | nil => simp [degN]
  | cons c l ih =>
    have key : degN p (c :: l) = if degN p l = 0 then (if fof p c = 0 then 0 else 1) else degN p l + 1 := rfl
    cases k with
    | zero =>
      rw [key]
      constructor
      · intro h j _ hj
        by_cases h0 : degN p l = 0
        · rw [if_pos h0] at h
          by_cases hc : fof p c = 0
          · cases j with
            | zero => simpa [nth, fof] using hc
            | succ j => have := (ih 0).1 (by omega) j (by omega) (by simpa using hj); simpa [nth] using this
          · rw [if_neg hc] at h; omega
        · rw [if_neg h0] at h; omega
      · intro h
        have h0 : degN p l = 0 := by
          have := (ih 0).2 (fun j _ hj => by have := h (j + 1) (by omega) (by simpa using hj); simpa [nth] using this)
          omega
        have hc : fof p c = 0 := by have := h 0 (by omega) (by simp); simpa [nth, fof] using this
        rw [if_pos h0, if_pos hc]; omega
    | succ k =>
      have e : degN p (c :: l) ≤ k + 1 ↔ degN p l ≤ k := by
        rw [key]; split
        · split <;> omega
        · omega
      rw [e, ih k]
      constructor
      · intro h j hj hl
        obtain ⟨j, rfl⟩ : ∃ i, j = i + 1 := ⟨j - 1, by omega⟩
        have := h j (by omega) (by simpa using hl)
        simpa [nth] using this
      · intro h j hj hl
        have := h (j + 1) (by omega) (by simpa using hl)
        simpa [nth] using this
theorem own_empty (w : World) (e sz : Nat) : (w.alloc (Obj.cells #[] e)).ownsRow w.heap.size e sz (.slice (some ⟨w.heap.size, 0, none⟩) 0 0) 0 [] :=
  ⟨by simp, .inr ⟨w.heap.size, 0, #[], rfl, Nat.le_refl _, heap_alloc_new w _, Nat.le_refl _, Nat.zero_le _, by simp, by simp⟩⟩
end Go.Att
namespace Go.Proofs.YtaajjaadlpgbiaaGreatDoor
open Go.RowKit Go.Att

set_option maxRecDepth 100000 in
set_option maxHeartbeats 1000000 in
theorem clone_any {w : World} {va : Value} {l : List Int} (hl : Ints w va l) (h63 : l.length ≤ 4294967296) :
    Calls Tryz.prog 115 #[va] w (Gives w fun u w' => w'.ownsRow w.heap.size 3 1 u l.length (l.map (Value.int .i64))) := by
  have hsl : Sl w 1 va l.length (l.map (Value.int .i64)) := hl
  obtain ⟨ao, cap, hv⟩ := hl.shape
  have HS := Lib.hid hsl
  subst hv
  have hq : ∀ w', (binOp .eql 23 (.slice ao l.length cap) (.slice none 0 0)).run Tryz.prog w' = .ok (.bool ao.isNone) w' := fun w' => Lib.run_eql_slice_nil w' 23 3 ao l.length cap 0 0 Tryz.underlying23
  cases ao with
  | none =>
    obtain ⟨ao', cap', hv, h2, h3, h4, h5⟩ := hsl
    have hl0 : l.length = 0 := by
      apply Classical.byContradiction
      intro hn
      obtain ⟨b, off, e, _⟩ := h5 0 (by simp; omega)
      simp only [Value.slice.injEq] at hv
      rw [e] at hv
      cases hv.1
    obtain rfl : l = [] := List.eq_nil_of_length_eq_zero hl0
    clear hv h2 h3 h4 h5 hl0
    simp only [List.length_nil, Option.isNone_none] at hq
    go_enter Tryz.func115, Tryz.ntmps115
    go_wp2
    go_ret
    exact .mk _ rfl (Ext.refl _) (World.ownsRow_nil _ _ _ _)
  | some a =>
    clear hsl
    go_enter Tryz.func115, Tryz.ntmps115
    go_wp2_with (at_builtin; refine wpList_appSl rfl _ _ 23 rfl slInts rfl (Ext.alloc w (Obj.cells #[] 3)) (own_empty w 3 1) rfl (HS.out.ext (Ext.alloc w _)) (by intro u hu; simp only [List.mem_map] at hu; obtain ⟨_, _, rfl⟩ := hu; rfl) rfl (by omega) (by omega) ?_; intro v1 w1 HO1 HX1 _)
    refine bodyPost_ret (v := v1) (by simp [results, Tryz.results115, go_sem]) rfl ?_
    exact .mk _ rfl HX1 (by simpa using HO1)

set_option maxRecDepth 100000 in
set_option maxHeartbeats 1000000 in
theorem pdegree_any {w : World} {f : Value} {p g : Int} {fs : List Int} (hf : Fld w f p g fs) {va : Value} {l : List Int} (hl : Ints w va l) :
    Calls Tryz.prog 167 #[f, va] w (Rd w (.int .i64 ((degN p l : Int) - 1))) := by
  have C := Lib.hid hf; clear hf
  have hll := hl.run_len (P := Tryz.prog) slInts
  have hlen := hl.len
  have HL := Lib.hid hl; clear hl
  go_enter Tryz.func167, Tryz.ntmps167
  go_wp2_with fail
  go_loopw [5] (fun x5 wr => ∃ (e : Int) (m : Nat), x5 = .int .i64 e ∧ -1 ≤ e ∧ e < l.length ∧ Hid (∀ j : Nat, e < j → j < l.length → nth l j % p = 0) ∧ wr = w.drewN m) (fun x5 _ => (intOf x5 + 1).toNat)
  case atStart => exact ⟨_, 0, rfl, by omega, by omega, Lib.hid (fun j h1 h2 => by omega), rfl⟩
  case round =>
    obtain ⟨e, m, rfl, h1, h2, HZ, rfl⟩ := hrel
    by_cases h0 : 0 ≤ e
    · obtain ⟨i, rfl⟩ := Int.eq_ofNat_of_zero_le h0
      have hil : i < l.length := by omega
      have hix := HL.out.run_index (P := Tryz.prog) slInts i hil
      have hc := (HL.out.drewN m).cell i hil
      by_cases hz : fof p (nth l i) = 0
      · have hb : (fof p (nth l i) == 0) = true := by rw [beq_iff_eq]; exact hz
        have HZZ := Lib.hid hz
        clear hz
        go_wp2_with (go_at_call 66; refine (of_any (C.out.drewN m) _).mono ?_; rintro e w' ⟨rfl, m', rfl⟩)
        go_roundw
        case rel => exact ⟨(i : Int) - 1, m + m', rfl, by omega, by omega, Lib.hid (fun j h3 h4 => by
          by_cases hj : j = i
          · rw [hj]; exact HZZ.out
          · exact HZ.out j (by omega) h4), rfl⟩
        case measure => simp [intOf]
      · have hb : (fof p (nth l i) == 0) = false := by rw [beq_eq_false_iff_ne]; exact hz
        have HZZ := Lib.hid hz
        clear hz
        go_wp2_with (go_at_call 66; refine (of_any (C.out.drewN m) _).mono ?_; rintro e w' ⟨rfl, m', rfl⟩)
        go_ret
        have hd := degN_at p l i hil HZZ.out (fun j h3 h4 => HZ.out j (by omega) h4)
        exact ⟨ret_int (by rw [hd]; omega), m + m', rfl⟩
    · have he : e = -1 := by omega
      subst he
      go_wp2_with fail
      go_ret
      have hd : degN p l = 0 := by have := (degN_bd p l 0).2 (fun j _ h4 => HZ.out j (by omega) h4); omega
      exact ⟨ret_int (by rw [hd]; rfl), m, rfl⟩

set_option maxRecDepth 100000 in
set_option maxHeartbeats 1000000 in
theorem ptrim_any {w : World} {f : Value} {p g : Int} {fs : List Int} (hf : Fld w f p g fs) {va : Value} {l : List Int} (hl : Ints w va l) (h20 : l.length ≤ 4294967296) :
    Calls Tryz.prog 154 #[f, va] w (Gives w fun u w' => Ints w' u (trimL p l)) := by
  have C := Lib.hid hf
  have hdl := degN_le p l
  have hw : IntKind.i64.wrap ((degN p l : Int) - 1 + 1) = (degN p l : Int) := by rw [show (degN p l : Int) - 1 + 1 = degN p l by omega]; exact IntWalk.i64_in _ (by omega)
  have hn1 : (degN p l : Int) - 1 + 1 = (degN p l : Int) := by omega
  have HL := Lib.hid hl; have HF := Lib.hid hf
  have htk := hl.run_take (P := Tryz.prog) slInts (degN p l) hdl
  have hT := hl.take (degN p l) hdl
  have hTl : (l.take (degN p l)).length = degN p l := by rw [List.length_take]; omega
  have hlT := hT.run_len (P := Tryz.prog) slInts
  rw [hTl] at hlT
  have HT := Lib.hid hT; have HTL := Lib.hid hTl
  clear hl hf hT hTl
  have HTR : Hid (trimL p l = (l.take (degN p l)).map (fof p)) := Lib.hid rfl
  generalize trimL p l = TR at *
  generalize hdn : degN p l = n at *
  generalize hvu : upTo va n = vu at *
  generalize l.take n = lt at *
  have HDN := Lib.hid hdn
  clear hdn hvu
  go_enter Tryz.func154, Tryz.ntmps154
  go_wp2_with (first | (go_at_call 167; refine (pdegree_any HF.out HL.out).mono ?_; rw [HDN.out]; rintro e w1 hrd; obtain ⟨rfl, hx1⟩ := hrd.ext; clear hrd) | (refine wpList_mk0 rfl _ _ 23 rfl slInts (Ext.refl w1) rfl rfl (by omega) (by omega) (by omega) ?_; intro v2 w2 HO HX _))
  go_loopw [6, 8, 19] (fun x6 _ x19 wr => ∃ i : Nat, i ≤ n ∧ x19 = .int .i64 i ∧ wr.ownsRow w.heap.size 3 1 x6 i (((lt.take i).map (fof p)).map (Value.int .i64)) ∧ Ext w wr) (fun _ _ x19 _ => n - (intOf x19).toNat)
  case atStart => exact ⟨0, Nat.zero_le _, rfl, by simpa using own_base HO hx1.size, hx1.trans HX⟩
  case round =>
    obtain ⟨i, hi, rfl, HO1, HX1⟩ := hrel
    by_cases hin : i < n
    · have hix := HT.out.run_index (P := Tryz.prog) slInts i (by rw [HTL.out]; exact hin)
      have hc := (HT.out.ext HX1).cell i (by rw [HTL.out]; exact hin)
      have ST := Lib.hid (show ((lt.take (i + 1)).map (fof p)).map (Value.int .i64) = ((lt.take i).map (fof p)).map (Value.int .i64) ++ [.int .i64 (fof p (nth lt i))] by
        have hh : i < lt.length := by rw [HTL.out]; exact hin
        rw [List.take_succ_eq_append_getElem hh, nth_eq hh, List.map_append, List.map_append]; rfl)
      go_wp2_with (first | (go_at_call 66; refine (of_any (HF.out.ext HX1) _).mono ?_; rintro e w3 hrd; obtain ⟨rfl, hx3⟩ := hrd.ext; clear hrd; replace HO1 := own_ext HO1 hx3; replace hx3 := HX1.trans hx3) | (at_builtin; refine wpList_appNw rfl _ _ 23 rfl slInts rfl hx3.size HO1 rfl _ rfl (by intro u hu; simp at hu; subst hu; rfl) rfl (by omega) (by omega) ?_; intro v7 w7 HO7 HG7 _))
      go_roundw
      case rel => exact ⟨i + 1, by omega, by go_num, by rw [ST.out]; exact HO7, Ext.own_grown hx3 HO1 HG7⟩
      case measure => simp [intOf]; omega
    · obtain rfl : i = n := by omega
      go_wp2_with fail
      go_ret
      refine .mk _ rfl HX1 ?_
      have hI := Ints.of_own HO1
      rw [List.take_of_length_le (by rw [HTL.out]; exact Nat.le_refl _), ← HTR.out] at hI
      exact hI
end Go.Proofs.YtaajjaadlpgbiaaGreatDoor
end
section
namespace Go.Att
theorem sumN_two (f : Nat → Int) (n : Nat) : sumN f (2 * n) = sumN (fun i => f (2 * i)) n + sumN (fun i => f (2 * i + 1)) n := by
  induction n with
  | zero => rfl
  | succ n ih =>
    rw [show 2 * (n + 1) = 2 * n + 1 + 1 by omega]
    simp only [sumN]
    rw [ih]
    omega
theorem pow_dbl (g : Int) (n : Nat) : (g * g) ^ n = g ^ (2 * n) := by
  rw [Int.pow_mul, show g ^ 2 = g * g by rw [Int.pow_succ, Int.pow_succ, Int.pow_zero, Int.one_mul]]
theorem neg_pow_even (i : Nat) : ((-1 : Int)) ^ (2 * i) = 1 := by
  induction i with
  | zero => rfl
  | succ i ih => rw [show 2 * (i + 1) = 2 * i + 1 + 1 by omega, Int.pow_succ, Int.pow_succ, ih]; rfl
theorem neg_pow_odd (i : Nat) : ((-1 : Int)) ^ (2 * i + 1) = -1 := by rw [Int.pow_succ, neg_pow_even]; rfl
theorem pow_cong {p a b : Int} (h : a % p = b % p) (n : Nat) : a ^ n % p = b ^ n % p := by rw [← pow_mod p a n, h, pow_mod]
theorem sprZ_dft {p : Int} : ∀ (k : Nat) (a : Nat → Int) (g : Int), (∀ m, k = m + 1 → g ^ (2 ^ m) % p = (-1) % p) → ∀ j, j < 2 ^ k → sprZ k a g j % p = sumN (fun i => a i * g ^ (i * j)) (2 ^ k) % p := by
  intro k
  induction k with
  | zero =>
    intro a g _ j hj
    obtain rfl : j = 0 := by simpa using hj
    simp [sprZ, sumN]
  | succ k ih =>
    intro a g hg j hj
    have hg2 : ∀ m, k = m + 1 → (g * g) ^ (2 ^ m) % p = (-1) % p := fun m hm => by
      rw [pow_dbl, show 2 * 2 ^ m = 2 ^ k by rw [hm, Nat.pow_succ, Nat.mul_comm]]
      exact hg k rfl
    have hk := hg k rfl
    rw [Nat.pow_succ, Nat.mul_comm] at hj ⊢
    rw [sumN_two]
    simp only [sprZ]
    split
    · rename_i hlt
      refine madd ((ih _ _ hg2 j hlt).trans (congrArg (· % p) (sumN_congr _ fun i _ => ?_))) ((mmul rfl (ih _ _ hg2 j hlt)).trans (congrArg (· % p) ?_))
      · rw [pow_dbl, Nat.mul_assoc]
      · rw [sumN_mul]
        refine sumN_congr _ fun i _ => ?_
        rw [pow_dbl, Nat.add_mul, Int.pow_add, Nat.one_mul, Nat.mul_assoc]
        generalize g ^ (2 * (i * j)) = x
        generalize g ^ j = y
        rw [Int.mul_comm y, Int.mul_assoc]
    · rename_i hge
      obtain ⟨c, rfl⟩ : ∃ c, j = c + 2 ^ k := ⟨j - 2 ^ k, by omega⟩
      have hc : c < 2 ^ k := by omega
      rw [show c + 2 ^ k - 2 ^ k = c by omega]
      have e1 : ∀ i, g ^ ((2 * i) * (c + 2 ^ k)) % p = (g * g) ^ (i * c) % p := fun i => by
        rw [Nat.mul_add, Int.pow_add, pow_dbl, Nat.mul_assoc]
        have h2 : g ^ (2 * i * 2 ^ k) % p = 1 % p := by
          rw [Nat.mul_comm, Int.pow_mul, pow_cong hk, neg_pow_even]
        have := mmul (rfl : g ^ (2 * (i * c)) % p = g ^ (2 * (i * c)) % p) h2
        rw [Int.mul_one] at this
        exact this
      have e2 : ∀ i, g ^ ((2 * i + 1) * (c + 2 ^ k)) % p = (g ^ c * (g * g) ^ (i * c) * (-1)) % p := fun i => by
        rw [Nat.mul_add, Int.pow_add]
        have h2 : g ^ ((2 * i + 1) * 2 ^ k) % p = (-1) % p := by
          rw [Nat.mul_comm, Int.pow_mul, pow_cong hk, neg_pow_odd]
        refine (mmul rfl h2).trans (congrArg (· % p) ?_)
        congr 1
        rw [pow_dbl, ← Int.pow_add]
        congr 1
        rw [Nat.add_mul, Nat.one_mul, Nat.mul_assoc, Nat.add_comm]
      rw [show ∀ x y : Int, x - y = x + (-1) * y from fun x y => by omega]
      refine madd ((ih _ _ hg2 c hc).trans (sumN_mod p _ fun i _ => mmul rfl (e1 i).symm)) ?_
      rw [Int.mul_comm (-1), Int.mul_assoc, Int.mul_comm _ (-1), ← Int.mul_assoc]
      refine (mmul rfl (ih _ _ hg2 c hc)).trans ?_
      rw [sumN_mul]
      refine sumN_mod p _ fun i _ => ?_
      have := mmul (rfl : a (2 * i + 1) % p = a (2 * i + 1) % p) (e2 i)
      rw [this]
      congr 1
      generalize (g * g) ^ (i * c) = x
      generalize g ^ c = y
      generalize a (2 * i + 1) = z
      grind
end Go.Att
namespace Go.Proofs.YtaajjaadlpgbiaaGreatDoor
open Go.Att
/-- The half of a root's powers is -1. -/
theorem root_neg {p g : Int} (hp : Pr p) (hp3 : 3 ≤ p) (hg : IsGen p g) {n : Int} {m : Nat} (hn : n = 2 ^ (m + 1)) (hd : (p - 1) % n = 0) : froot p g n ^ (2 ^ m) % p = (-1) % p := by
  have hpos : (0 : Int) < 2 ^ m := Int.pow_pos (by decide)
  obtain ⟨c, hc⟩ := Int.dvd_of_emod_eq_zero hd
  have hn2 : n = 2 * 2 ^ m := by rw [hn, Int.pow_succ, Int.mul_comm]
  have hc0 : 0 < c := by
    apply Classical.byContradiction
    intro h
    have h0 : n * c ≤ 0 := by
      have := Int.mul_le_mul_of_nonneg_left (show c ≤ 0 by omega) (show 0 ≤ n by omega)
      simpa using this
    omega
  have hq : (p - 1) / n = c := by rw [hc]; exact Int.mul_ediv_cancel_left c (by omega)
  unfold froot fpow
  rw [hq, pow_cong (e_idem _ _), ← Int.pow_mul]
  obtain ⟨cn, rfl⟩ := Int.eq_ofNat_of_zero_le (show 0 ≤ c by omega)
  rw [Int.toNat_natCast]
  have hM : ((cn * 2 ^ m : Nat) : Int) = (cn : Int) * 2 ^ m := by push_cast; rfl
  have hM2 : 2 * ((cn * 2 ^ m : Nat) : Int) = p - 1 := by rw [hM, hc, hn2]; grind
  generalize cn * 2 ^ m = M at *
  have hf := fermat hp hg.1
  rw [show (p - 1).toNat = M + M by omega, Int.pow_add] at hf
  have h1 := hg.2 M (by omega) (by omega)
  have hdv : p ∣ (g ^ M - 1) * (g ^ M + 1) := by
    have e : (g ^ M - 1) * (g ^ M + 1) = g ^ M * g ^ M - 1 := by grind
    rw [e]
    exact dvd_sub_of_mod_eq (hf.trans (one_mod hp.two).symm)
  rcases hp.euclid hdv with h | h
  · exact absurd ((mod_eq_of_dvd_sub h).trans (one_mod hp.two)) h1
  · exact mod_eq_of_dvd_sub (by rw [show g ^ M - -1 = g ^ M + 1 by omega]; exact h)
end Go.Proofs.YtaajjaadlpgbiaaGreatDoor
namespace Go.Att
/-- .. and of what undoes it. -/
theorem inv_neg {p r : Int} (hp : Pr p) (h0 : ¬ p ∣ r) {N : Nat} (h : r ^ N % p = (-1) % p) : finv p r ^ N % p = (-1) % p := by
  have h1 := pow_cong ((finv_mul hp h0).trans (one_mod hp.two).symm) N
  rw [Int.mul_pow] at h1
  have h2 := mmul (rfl : finv p r ^ N % p = finv p r ^ N % p) h
  have h3 : (finv p r ^ N * -1) % p = 1 % p := by rw [← h2, h1, Int.one_pow]
  have h4 := mmul h3 (rfl : (-1 : Int) % p = (-1) % p)
  rw [show finv p r ^ N * -1 * -1 = finv p r ^ N by omega, show (1 : Int) * -1 = -1 by rfl] at h4
  exact h4
/-- What a polynomial is at all points. -/
def valsL (p sh r : Int) (n : Nat) (a : List Int) : List Int := (List.range n).map fun j => ev a (ptAt p sh r j) % p
theorem valsL_length (p sh r : Int) (n : Nat) (a : List Int) : (valsL p sh r n a).length = n := by simp [valsL]
theorem valsL_nth (p sh r : Int) (n : Nat) (a : List Int) {j : Nat} (h : j < n) : nth (valsL p sh r n a) j = ev a (ptAt p sh r j) % p := nth_map_range _ _ _ h
/-- The polynomial that has these values. -/
def cofL (p r : Int) (K : Nat) (n sh : Int) (l : List Int) : List Int := (List.range (2 ^ K)).map fun j => sumN (fun i => nth l i * finv p r ^ (i * j)) (2 ^ K) * ptAt p (finv p n) (finv p sh) j % p
theorem cofL_length (p r : Int) (K : Nat) (n sh : Int) (l : List Int) : (cofL p r K n sh l).length = 2 ^ K := by simp [cofL]
theorem cofL_nth (p r : Int) (K : Nat) (n sh : Int) (l : List Int) {j : Nat} (h : j < 2 ^ K) : nth (cofL p r K n sh l) j = sumN (fun i => nth l i * finv p r ^ (i * j)) (2 ^ K) * ptAt p (finv p n) (finv p sh) j % p := nth_map_range _ _ _ h
theorem degN_cong {p : Int} : ∀ {a b : List Int}, a.length = b.length → (∀ j, j < a.length → nth a j % p = nth b j % p) → degN p a = degN p b := fun {a b} hl h => by
  apply Nat.le_antisymm
  · rw [degN_bd]
    intro j h1 h2
    rw [h j h2]
    exact (degN_bd p b _).1 (Nat.le_refl _) j h1 (by omega)
  · rw [degN_bd]
    intro j h1 h2
    rw [← h j (by omega)]
    exact (degN_bd p a _).1 (Nat.le_refl _) j h1 (by omega)
theorem trimL_cong {p : Int} {a b : List Int} (hl : a.length = b.length) (h : ∀ j, j < a.length → nth a j % p = nth b j % p) : trimL p a = trimL p b := by
  unfold trimL
  rw [degN_cong hl h]
  apply List.ext_getElem (by simp [hl])
  intro i h1 h2
  simp only [List.length_map, List.length_take] at h1 h2
  have := h i (by omega)
  rw [nth_eq (by omega), nth_eq (by omega)] at this
  simp [fof, this]
theorem cofs_same {p r : Int} {K : Nat} {n sh : Int} {l M : List Int} (hg : ∀ m, K = m + 1 → finv p r ^ (2 ^ m) % p = (-1) % p) (hM : M.length = 2 ^ K) (h : ∀ j, j < 2 ^ K → nth M j % p = cz K (finv p r) (ptAt p (finv p n) (finv p sh)) l j % p) : trimL p M = trimL p (cofL p r K n sh l) := by
  have hc : ∀ j, j < 2 ^ K → nth M j % p = nth (cofL p r K n sh l) j % p := fun j hj => by
    rw [h j hj, cofL_nth _ _ _ _ _ _ hj, e_idem]
    unfold cz
    exact mmul (sprZ_dft K _ _ hg j hj) rfl
  exact trimL_cong (by rw [hM, cofL_length]) (fun j hj => hc j (by omega))
end Go.Att
end
section
namespace Go.Att
open Go.RowKit
noncomputable def cwB (p : Int) (K k : Nat) (g : Int) (wt : Nat → Int) (word : List Int) : Bool := @decide (CW p K k g wt word) (Classical.propDecidable _)
theorem cwB_iff {p : Int} {K k : Nat} {g : Int} {wt : Nat → Int} {word : List Int} : cwB p K k g wt word = true ↔ CW p K k g wt word := ⟨fun h => @of_decide_eq_true _ (Classical.propDecidable _) h, fun h => @decide_eq_true _ (Classical.propDecidable _) h⟩
/-- The products up to i. -/
def cofU (p : Int) (L : List Int) (P : Nat → Int) (i : Nat) : List Int := (List.range L.length).map fun j => if j < i then fmul p (nth L j) (P j) else nth L j
theorem cofU_length (p : Int) (L : List Int) (P : Nat → Int) (i : Nat) : (cofU p L P i).length = L.length := by simp [cofU]
theorem cofU_zero (p : Int) (L : List Int) (P : Nat → Int) : cofU p L P 0 = L := by
  apply List.ext_getElem (by simp [cofU])
  intro j h1 h2
  simp [cofU, nth_eq h2]
theorem cofU_nth (p : Int) (L : List Int) (P : Nat → Int) (i j : Nat) (h : j < L.length) : nth (cofU p L P i) j = if j < i then fmul p (nth L j) (P j) else nth L j := nth_map_range _ _ _ h
theorem cofU_set (p : Int) (L : List Int) (P : Nat → Int) (i : Nat) (h : i < L.length) : ((cofU p L P i).map (Value.int .i64)).take (i * 1) ++ [.int .i64 (fmul p (nth L i) (P i))] ++ ((cofU p L P i).map (Value.int .i64)).drop (i * 1 + 1) = (cofU p L P (i + 1)).map (Value.int .i64) := by
  rw [Nat.mul_one]
  apply List.ext_getElem?
  intro j
  by_cases hj : j < L.length
  · by_cases h1 : j < i
    · rw [List.append_assoc, List.getElem?_append_left (by simp [cofU]; omega), List.getElem?_take, if_pos h1]
      simp [cofU, hj, h1, show j < i + 1 by omega]
    · by_cases h2 : j = i
      · subst h2
        rw [List.append_assoc, List.getElem?_append_right (by simp [cofU]; omega)]
        simp [cofU, hj, show min j L.length = j by omega]
      · rw [List.getElem?_append_right (by simp [cofU]; omega)]
        simp only [List.length_append, List.length_take, List.length_map, cofU, List.length_range, List.length_singleton, List.getElem?_drop]
        rw [show i + 1 + (j - (min i L.length + 1)) = j by omega]
        simp [hj, h1, show ¬ j < i + 1 by omega]
  · rw [List.getElem?_eq_none (by simp [cofU]; omega), List.getElem?_eq_none (by simp [cofU]; omega)]
theorem trimL_len (p : Int) (M : List Int) : (trimL p M).length = degN p M := by
  unfold trimL; rw [List.length_map, List.length_take]; have := degN_le p M; omega
theorem is_fin {p : Int} {K : Nat} {g : Int} {wt : Nat → Int} {l M : List Int} (hM : M.length = 2 ^ K) (hc : ∀ j, j < 2 ^ K → nth M j % p = cz K g wt l j % p) (k : Nat) : decide ((trimL p M).length ≤ k) = cwB p K k g wt l := by
  rw [trimL_len, Bool.eq_iff_iff, cwB_iff, decide_eq_true_iff]
  rw [degN_bd]
  unfold CW
  rw [hM]
  exact ⟨fun h j h1 h2 => by rw [← hc j h2]; exact h j h1 h2, fun h j h1 h2 => by rw [hc j h2]; exact h j h1 h2⟩
end Go.Att
namespace Go.Proofs.YtaajjaadlpgbiaaGreatDoor
open Go.RowKit Go.Att
/-- A word's coefficients are made. -/
def CofGot (p n sh r : Int) (K : Nat) (l : List Int) (v : Value) (w' : World) : Prop := ∃ (u : Value) (M : List Int), v = .tuple #[u, .nilIface] ∧ Ints w' u (trimL p M) ∧ M.length = 2 ^ K ∧ ∀ j, j < 2 ^ K → nth M j % p = cz K (finv p r) (ptAt p (finv p n) (finv p sh)) l j % p

/-- What Is says of a word. -/
def IsSaid (b : Bool) (w : World) (e : Ending) (w' : World) : Prop := e = .returned (.bool b) ∧ Ext w w'
end Go.Proofs.YtaajjaadlpgbiaaGreatDoor
end
