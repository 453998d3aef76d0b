/- A copy of a list; a polynomial's end: contracts. By halves: what spread comes to is what the polynomial is at the powers of a root: plain laws. No program in sight. A word's coefficients; is it a codeword?: contracts. What a polynomial is at all points; a point; on both sides: contracts. Domains of the document: points, values, coefficients: contracts. The document's digest: powers, constants, stirring, what stands behind a list: contracts. The sponge, the program's side: a state is stirred: contract. The document's digest: a state is stirred; what stands behind a list; the digest: contracts. -/
import Derived.Test.YtfepefbehgbjpaaGreatDoorZx9
import Derived.Test.YtfepefbehgbjpaaGreatDoorZx2
import Derived.Test.YtfepefbehgbjpaaGreatDoorZx8
import Derived.Test.YtfepefbehgbjpaaGreatDoorZx3
import Derived.Test.YtfepefbehgbjpaaGreatDoorZx6
import Derived.Test.YtfepefbehgbjpaaGreatDoorZx7
section
namespace Go.Att
open Go.RowKit
theorem own_empty (w : World) (e sz : Nat) : (w.alloc (Obj.cells #[] e)).ownsRow w.heap.size e sz (.slice (some ⟨w.heap.size, 0, none⟩) 0 0) 0 [] :=
  ⟨by simp, .inr ⟨w.heap.size, 0, #[], rfl, Nat.le_refl _, heap_alloc_new w _, Nat.le_refl _, Nat.zero_le _, by simp, by simp⟩⟩
end Go.Att
namespace Go.Proofs.YtfepefbehgbjpaaGreatDoor
open Go.RowKit Go.Att

set_option maxRecDepth 100000 in
set_option maxHeartbeats 1000000 in
theorem clone_any {w : World} {va : Value} {l : List Int} (hl : Ints w va l) (h63 : l.length ≤ 4294967296) :
    Calls Tryz.prog 55 #[va] w (Gives w fun u w' => w'.ownsRow w.heap.size 3 1 u l.length (l.map (Value.int .i64))) := by
  have hsl : Sl w 1 va l.length (l.map (Value.int .i64)) := hl
  obtain ⟨ao, cap, hv⟩ := hl.shape
  have HS := Lib.hid hsl
  subst hv
  have hq : ∀ w', (binOp .eql 22 (.slice ao l.length cap) (.slice none 0 0)).run Tryz.prog w' = .ok (.bool ao.isNone) w' := fun w' => Lib.run_eql_slice_nil w' 22 3 ao l.length cap 0 0 Tryz.underlying22
  cases ao with
  | none =>
    obtain ⟨ao', cap', hv, h2, h3, h4, h5⟩ := hsl
    have hl0 : l.length = 0 := by
      apply Classical.byContradiction
      intro hn
      obtain ⟨b, off, e, _⟩ := h5 0 (by simp; omega)
      simp only [Value.slice.injEq] at hv
      rw [e] at hv
      cases hv.1
    obtain rfl : l = [] := List.eq_nil_of_length_eq_zero hl0
    clear hv h2 h3 h4 h5 hl0
    simp only [List.length_nil, Option.isNone_none] at hq
    go_enter Tryz.func55, Tryz.ntmps55
    go_wp2
    go_ret
    exact .mk _ rfl (Ext.refl _) (World.ownsRow_nil _ _ _ _)
  | some a =>
    clear hsl
    go_enter Tryz.func55, Tryz.ntmps55
    go_wp2_with (at_builtin; refine wpList_appSl rfl _ _ 22 rfl slInts rfl (Ext.alloc w (Obj.cells #[] 3)) (own_empty w 3 1) rfl (HS.out.ext (Ext.alloc w _)) (by intro u hu; simp only [List.mem_map] at hu; obtain ⟨_, _, rfl⟩ := hu; rfl) rfl (by omega) (by omega) ?_; intro v1 w1 HO1 HX1 _)
    refine bodyPost_ret (v := v1) (by simp [results, Tryz.results55, go_sem]) rfl ?_
    exact .mk _ rfl HX1 (by simpa using HO1)

end Go.Proofs.YtfepefbehgbjpaaGreatDoor
end
section
namespace Go.Att
theorem sumN_two (f : Nat → Int) (n : Nat) : sumN f (2 * n) = sumN (fun i => f (2 * i)) n + sumN (fun i => f (2 * i + 1)) n := by
  induction n with
  | zero => rfl
  | succ n ih =>
    rw [show 2 * (n + 1) = 2 * n + 1 + 1 by omega]
    simp only [sumN]
    rw [ih]
    omega
theorem pow_dbl (g : Int) (n : Nat) : (g * g) ^ n = g ^ (2 * n) := by
  rw [Int.pow_mul, show g ^ 2 = g * g by rw [Int.pow_succ, Int.pow_succ, Int.pow_zero, Int.one_mul]]
theorem neg_pow_even (i : Nat) : ((-1 : Int)) ^ (2 * i) = 1 := by
  induction i with
  | zero => rfl
  | succ i ih => rw [show 2 * (i + 1) = 2 * i + 1 + 1 by omega, Int.pow_succ, Int.pow_succ, ih]; rfl
theorem neg_pow_odd (i : Nat) : ((-1 : Int)) ^ (2 * i + 1) = -1 := by rw [Int.pow_succ, neg_pow_even]; rfl
theorem pow_cong {p a b : Int} (h : a % p = b % p) (n : Nat) : a ^ n % p = b ^ n % p := by rw [← pow_mod p a n, h, pow_mod]
theorem sprZ_dft {p : Int} : ∀ (k : Nat) (a : Nat → Int) (g : Int), (∀ m, k = m + 1 → g ^ (2 ^ m) % p = (-1) % p) → ∀ j, j < 2 ^ k → sprZ k a g j % p = sumN (fun i => a i * g ^ (i * j)) (2 ^ k) % p := by
  intro k
  induction k with
  | zero =>
    intro a g _ j hj
    obtain rfl : j = 0 := by simpa using hj
    simp [sprZ, sumN]
  | succ k ih =>
    intro a g hg j hj
    have hg2 : ∀ m, k = m + 1 → (g * g) ^ (2 ^ m) % p = (-1) % p := fun m hm => by
      rw [pow_dbl, show 2 * 2 ^ m = 2 ^ k by rw [hm, Nat.pow_succ, Nat.mul_comm]]
      exact hg k rfl
    have hk := hg k rfl
    rw [Nat.pow_succ, Nat.mul_comm] at hj ⊢
    rw [sumN_two]
    simp only [sprZ]
    split
    · rename_i hlt
      refine madd ((ih _ _ hg2 j hlt).trans (congrArg (· % p) (sumN_congr _ fun i _ => ?_))) ((mmul rfl (ih _ _ hg2 j hlt)).trans (congrArg (· % p) ?_))
      · rw [pow_dbl, Nat.mul_assoc]
      · rw [sumN_mul]
        refine sumN_congr _ fun i _ => ?_
        rw [pow_dbl, Nat.add_mul, Int.pow_add, Nat.one_mul, Nat.mul_assoc]
        generalize g ^ (2 * (i * j)) = x
        generalize g ^ j = y
        rw [Int.mul_comm y, Int.mul_assoc]
    · rename_i hge
      obtain ⟨c, rfl⟩ : ∃ c, j = c + 2 ^ k := ⟨j - 2 ^ k, by omega⟩
      have hc : c < 2 ^ k := by omega
      rw [show c + 2 ^ k - 2 ^ k = c by omega]
      have e1 : ∀ i, g ^ ((2 * i) * (c + 2 ^ k)) % p = (g * g) ^ (i * c) % p := fun i => by
        rw [Nat.mul_add, Int.pow_add, pow_dbl, Nat.mul_assoc]
        have h2 : g ^ (2 * i * 2 ^ k) % p = 1 % p := by
          rw [Nat.mul_comm, Int.pow_mul, pow_cong hk, neg_pow_even]
        have := mmul (rfl : g ^ (2 * (i * c)) % p = g ^ (2 * (i * c)) % p) h2
        rw [Int.mul_one] at this
        exact this
      have e2 : ∀ i, g ^ ((2 * i + 1) * (c + 2 ^ k)) % p = (g ^ c * (g * g) ^ (i * c) * (-1)) % p := fun i => by
        rw [Nat.mul_add, Int.pow_add]
        have h2 : g ^ ((2 * i + 1) * 2 ^ k) % p = (-1) % p := by
          rw [Nat.mul_comm, Int.pow_mul, pow_cong hk, neg_pow_odd]
        refine (mmul rfl h2).trans (congrArg (· % p) ?_)
        congr 1
        rw [pow_dbl, ← Int.pow_add]
        congr 1
        rw [Nat.add_mul, Nat.one_mul, Nat.mul_assoc, Nat.add_comm]
      rw [show ∀ x y : Int, x - y = x + (-1) * y from fun x y => by omega]
      refine madd ((ih _ _ hg2 c hc).trans (sumN_mod p _ fun i _ => mmul rfl (e1 i).symm)) ?_
      rw [Int.mul_comm (-1), Int.mul_assoc, Int.mul_comm _ (-1), ← Int.mul_assoc]
      refine (mmul rfl (ih _ _ hg2 c hc)).trans ?_
      rw [sumN_mul]
      refine sumN_mod p _ fun i _ => ?_
      have := mmul (rfl : a (2 * i + 1) % p = a (2 * i + 1) % p) (e2 i)
      rw [this]
      congr 1
      generalize (g * g) ^ (i * c) = x
      generalize g ^ c = y
      generalize a (2 * i + 1) = z
      grind
end Go.Att
namespace Go.Proofs.YtfepefbehgbjpaaGreatDoor
open Go.Att
theorem root_neg {p g : Int} (hp : Pr p) (hp3 : 3 ≤ p) (hg : IsGen p g) {n : Int} {m : Nat} (hn : n = 2 ^ (m + 1)) (hd : (p - 1) % n = 0) : froot p g n ^ (2 ^ m) % p = (-1) % p := by
  have hpos : (0 : Int) < 2 ^ m := Int.pow_pos (by decide)
  obtain ⟨c, hc⟩ := Int.dvd_of_emod_eq_zero hd
  have hn2 : n = 2 * 2 ^ m := by rw [hn, Int.pow_succ, Int.mul_comm]
  have hc0 : 0 < c := by
    apply Classical.byContradiction
    intro h
    have h0 : n * c ≤ 0 := by
      have := Int.mul_le_mul_of_nonneg_left (show c ≤ 0 by omega) (show 0 ≤ n by omega)
      simpa using this
    omega
  have hq : (p - 1) / n = c := by rw [hc]; exact Int.mul_ediv_cancel_left c (by omega)
  unfold froot fpow
  rw [hq, pow_cong (e_idem _ _), ← Int.pow_mul]
  obtain ⟨cn, rfl⟩ := Int.eq_ofNat_of_zero_le (show 0 ≤ c by omega)
  rw [Int.toNat_natCast]
  have hM : ((cn * 2 ^ m : Nat) : Int) = (cn : Int) * 2 ^ m := by push_cast; rfl
  have hM2 : 2 * ((cn * 2 ^ m : Nat) : Int) = p - 1 := by rw [hM, hc, hn2]; grind
  generalize cn * 2 ^ m = M at *
  have hf := fermat hp hg.1
  rw [show (p - 1).toNat = M + M by omega, Int.pow_add] at hf
  have h1 := hg.2 M (by omega) (by omega)
  have hdv : p ∣ (g ^ M - 1) * (g ^ M + 1) := by
    have e : (g ^ M - 1) * (g ^ M + 1) = g ^ M * g ^ M - 1 := by grind
    rw [e]
    exact dvd_sub_of_mod_eq (hf.trans (one_mod hp.two).symm)
  rcases hp.euclid hdv with h | h
  · exact absurd ((mod_eq_of_dvd_sub h).trans (one_mod hp.two)) h1
  · exact mod_eq_of_dvd_sub (by rw [show g ^ M - -1 = g ^ M + 1 by omega]; exact h)
end Go.Proofs.YtfepefbehgbjpaaGreatDoor
namespace Go.Att
def valsL (p sh r : Int) (n : Nat) (a : List Int) : List Int := (List.range n).map fun j => ev a (ptAt p sh r j) % p
theorem valsL_length (p sh r : Int) (n : Nat) (a : List Int) : (valsL p sh r n a).length = n := by simp [valsL]
theorem valsL_nth (p sh r : Int) (n : Nat) (a : List Int) {j : Nat} (h : j < n) : nth (valsL p sh r n a) j = ev a (ptAt p sh r j) % p := nth_map_range _ _ _ h
end Go.Att
end
section
namespace Go.Att
open Go.RowKit
end Go.Att
namespace Go.Proofs.YtfepefbehgbjpaaGreatDoor
open Go.RowKit Go.Att
end Go.Proofs.YtfepefbehgbjpaaGreatDoor
end
section
namespace Go.Att
open Go.RowKit
theorem ints_clip {w : World} {ao : Option Addr} {cap : Nat} {l : List Int} (h : Ints w (.slice ao l.length cap) l) : Ints w (.slice ao l.length l.length) l := by
  obtain ⟨ao', cap', e, h2, h3, h4, h5⟩ := h
  injection e with e1 e2 e3
  subst e1 e3
  exact ⟨ao, l.length, rfl, h2, Nat.le_refl _, by omega, h5⟩
def shoU (p sh : Int) (l : List Int) (n i : Nat) : List Int := (List.range n).map fun j => if j < i then fadd p 0 (fmul p (ptAt p 1 sh j) (nth l j)) else 0
theorem shoU_length (p sh : Int) (l : List Int) (n i : Nat) : (shoU p sh l n i).length = n := by simp [shoU]
theorem shoU_nth (p sh : Int) (l : List Int) (n i : Nat) {j : Nat} (h : j < n) : nth (shoU p sh l n i) j = if j < i then fadd p 0 (fmul p (ptAt p 1 sh j) (nth l j)) else 0 := nth_map_range _ _ _ h
theorem shoU_zero (p sh : Int) (l : List Int) (n : Nat) : shoU p sh l n 0 = List.replicate n 0 := by
  unfold shoU
  apply List.ext_getElem (by simp)
  intro i h1 h2
  simp
theorem set_mid {l : List Int} {i : Nat} (hi : i < l.length) (x : Int) : (l.map (Value.int .i64)).take (i * 1) ++ (Value.cells (.int .i64 x)).toList ++ (l.map (Value.int .i64)).drop (i * 1 + 1) = (l.set i x).map (Value.int .i64) := by
  rw [Nat.mul_one, List.map_set]
  have h2 : i < (l.map (Value.int .i64)).length := by simpa using hi
  rw [List.set_eq_take_append_cons_drop, if_pos h2]
  simp [Value.cells]
theorem shoU_set (p sh : Int) (l : List Int) (n i : Nat) (_hi : i < n) : (shoU p sh l n i).set i (fadd p 0 (fmul p (ptAt p 1 sh i) (nth l i))) = shoU p sh l n (i + 1) := by
  apply List.ext_getElem (by simp [shoU])
  intro j h1 h2
  rw [List.getElem_set]
  simp only [shoU, List.getElem_map, List.getElem_range]
  by_cases e : i = j
  · subst e; rw [if_pos rfl, if_pos (by omega)]
  · rw [if_neg e]
    by_cases h : j < i
    · rw [if_pos h, if_pos (by omega)]
    · rw [if_neg h, if_neg (by omega)]
theorem ev_sum (l : List Int) (x : Int) : ev l x = sumN (fun i => nth l i * x ^ i) l.length := by
  rw [← ev_range]
  congr 1
  apply List.ext_getElem (by simp)
  intro i h1 h2
  simp [nth_eq h1]
theorem ev_long (l : List Int) (x : Int) {n : Nat} (h : l.length ≤ n) : ev l x = sumN (fun i => nth l i * x ^ i) n := by
  obtain ⟨m, rfl⟩ := Nat.le.dest h
  rw [ev_sum, sumN_split]
  have e : sumN (fun i => nth l (i + l.length) * x ^ (i + l.length)) m = 0 := by
    rw [sumN_congr (g := fun _ => 0) m fun i _ => ?_, sumN_zero]
    have : nth l (i + l.length) = 0 := by unfold nth; rw [List.getD_eq_getElem?_getD, List.getElem?_eq_none (by omega)]; rfl
    rw [this]; simp
  rw [e]; simp
theorem vals_fin {p sh r : Int} {K : Nat} {l L : List Int} (hl : l.length ≤ 2 ^ K) (hr : ∀ m, K = m + 1 → r ^ (2 ^ m) % p = (-1) % p) (hL : L.length = 2 ^ K) (hm : ∀ j, j < 2 ^ K → nth L j % p = sprZ K (nth (shoU p sh l (2 ^ K) l.length)) r j % p) (hb : ∀ j, j < 2 ^ K → 0 ≤ nth L j ∧ nth L j < p) : L = valsL p sh r (2 ^ K) l := by
  apply List.ext_getElem (by rw [hL, valsL_length])
  intro j h1 h2
  rw [← nth_eq h1, ← nth_eq h2]
  have hj : j < 2 ^ K := by omega
  rw [valsL_nth _ _ _ _ _ hj]
  have := hb j hj
  rw [← Int.emod_eq_of_lt this.1 this.2, hm j hj, sprZ_dft K _ _ hr j hj, ev_long l _ hl]
  refine sumN_mod p _ fun i hi => ?_
  have e1 : nth (shoU p sh l (2 ^ K) l.length) i % p = (nth l i * sh ^ i) % p := by
    rw [shoU_nth _ _ _ _ _ hi]
    split
    · simp only [fadd, fmul, ptAt, Int.zero_add, e_idem, Int.one_mul]
      rw [em_l, Int.mul_comm]
    · have : nth l i = 0 := by unfold nth; rw [List.getD_eq_getElem?_getD, List.getElem?_eq_none (by omega)]; rfl
      rw [this]; simp
  refine (mmul e1 rfl).trans ?_
  have e2 : ptAt p sh r j ^ i % p = (sh * r ^ j) ^ i % p := pow_mod _ _ _
  refine Eq.trans ?_ (mmul rfl e2.symm)
  rw [Int.mul_pow, ← Int.pow_mul, Nat.mul_comm j i, Int.mul_assoc]
end Go.Att
namespace Go.Proofs.YtfepefbehgbjpaaGreatDoor
open Go.RowKit Go.Att
set_option maxRecDepth 100000 in
theorem clipW_any (b off n cap : Nat) (w : World) (h : n ≤ cap) (_h2 : cap ≤ maxLen) :
    Calls Tryz.prog 86 #[.slice (some ⟨b, off, none⟩) n cap] w fun e w' => e = .returned (.slice (some ⟨b, off, none⟩) n n) ∧ w = w' := by
  go_enter Tryz.func86, Tryz.ntmps86
  go_wp2_with fail
  go_ret
  exact ⟨rfl, rfl⟩
set_option maxRecDepth 100000 in
set_option maxHeartbeats 1000000 in
theorem dpoint_any {w : World} {d : Value} {bf : Nat} {p g0 n sh r : Int} {fs : List Int} (hd : DomOf w d (.pointer (some ⟨bf, 0, none⟩)) n sh r) (hf : Fld w (.pointer (some ⟨bf, 0, none⟩)) p g0 fs) (i : Nat) (hi : (i : Int) < n) (hn2 : n ≤ 65536) :
    Calls Tryz.prog 113 #[d, .int .i64 i] w (Rd w (.int .i64 (ptAt p sh r i))) := by
  have C := Lib.hid hf; clear hf
  obtain ⟨b, rfl, d1, d2, d3, d4⟩ := hd
  have hm : (i : Int) % n = i := Int.emod_eq_of_lt (by omega) hi
  have hm2 : (i : Int).tmod n = i := by rw [Int.tmod_eq_emod_of_nonneg (by omega)]; exact hm
  have hn1 : 1 ≤ n := by omega
  have hi0 : (0 : Int) ≤ i := by omega
  go_enter Tryz.func113, Tryz.ntmps113
  go_wp2_with fail
  go_quiet ((first | (go_at_call 32; exact pow_q C.out _ _ (by omega) (by omega) _) | (go_at_call 79; exact mul_q C.out _ _ _)))
  go_wp2_with fail
  go_ret
  exact ⟨ret_int (by unfold fmul; rw [Int.mul_comm]; exact ptAt_pow _ _ _ _), _, rfl⟩
set_option maxRecDepth 100000 in
set_option maxHeartbeats 4000000 in
theorem values_any {w : World} {d : Value} {bf : Nat} {p g0 n sh r : Int} {fs : List Int} (hd : DomOf w d (.pointer (some ⟨bf, 0, none⟩)) n sh r) (hf : Fld w (.pointer (some ⟨bf, 0, none⟩)) p g0 fs) (K : Nat) (hK1 : 1 ≤ K) (hK : K ≤ 16) (hn : n = (2 : Int) ^ K) {va : Value} {l : List Int} (hl : Ints w va l) (hlen : l.length ≤ 2 ^ K) (hr : ∀ m, K = m + 1 → r ^ (2 ^ m) % p = (-1) % p) :
    Calls Tryz.prog 75 #[d, va] w (Gives w fun v w' => Ints w' v (valsL p sh r (2 ^ K) l) ∧ NewIn w v) := by
  have hp1 : 1 ≤ 2 ^ K := Nat.one_le_two_pow
  have hp2 : 2 ^ K ≤ 65536 := by
    have e1 : 2 ^ K ≤ 2 ^ 16 := Nat.pow_le_pow_right (by decide) hK
    have e2 : (2 : Nat) ^ 16 = 65536 := by decide
    omega
  have hnn : n = ((2 ^ K : Nat) : Int) := by rw [hn]; norm_cast
  have HK := Lib.hid hK; have HK1 := Lib.hid hK1; have HR := Lib.hid hr
  have hll := hl.run_len (P := Tryz.prog) slInts
  obtain ⟨h, hh⟩ : ∃ h, 2 ^ K = h := ⟨_, rfl⟩
  rw [hh] at hp1 hp2 hnn hlen
  have HH := Lib.hid hh; have HNN := Lib.hid hnn
  have hn1 : 1 ≤ n := by omega
  have hn2 : n ≤ 65536 := by omega
  have HD := Lib.hid hd; have C := Lib.hid hf; have HL := Lib.hid hl
  obtain ⟨b, rfl⟩ := hd.ptr
  obtain ⟨bb, hbb, d1, d2, d3, d4⟩ := hd
  obtain rfl : b = bb := by simpa using hbb
  clear hbb hf hl hn hh hK hK1 hr hnn
  go_enter Tryz.func75, Tryz.ntmps75
  go_wp2_with (refine wpList_mkn rfl _ _ 22 rfl slInts (Ext.refl w) rfl rfl (by omega) (by omega) (by omega) ?_; intro v1 w1 HO1 HX1 _; rw [show n.toNat = h by (have := HNN.out; omega)] at HO1)
  have HO := Lib.hid (show w1.ownsRow w.heap.size 3 1 v1 h ((shoU p sh l h 0).map (Value.int .i64)) by
    rw [shoU_zero]
    have e1 : (madeCells (Value.cells (.int .i64 0)) (h * 1)).toList = (List.replicate h (0 : Int)).map (Value.int .i64) := by simp [madeCells, Value.cells, Nat.mod_one, List.map_const']
    rw [← e1]; exact HO1)
  have HX := Lib.hid HX1
  clear HO1 HX1 d1 d2 d3 d4
  have HP1 := Lib.hid (show ptAt p 1 sh 0 = 1 by unfold ptAt; rw [Int.pow_zero, Int.mul_one]; exact one_mod C.out.two)
  go_loopw [6, 7, 8, 16] (fun x6 _ _ x16 wr => ∃ i : Nat, i ≤ l.length ∧ x16 = .int .i64 i ∧ x6 = .int .i64 (ptAt p 1 sh i) ∧ wr.ownsRow w.heap.size 3 1 v1 h ((shoU p sh l h i).map (Value.int .i64)) ∧ Ext w wr) (fun _ _ _ x16 _ => l.length - (intOf x16).toNat)
  case atStart => exact ⟨0, Nat.zero_le _, rfl, by rw [HP1.out], HO.out, HX.out⟩
  case round =>
    clear HO HX
    obtain ⟨i, hi, rfl, rfl, HO, HX⟩ := hrel
    by_cases hil : i < l.length
    · have hih : i < h := by omega
      have hix := HL.out.run_index (P := Tryz.prog) slInts i hil
      have hc := (HL.out.ext HX).cell i hil
      have hio := Ints.of_own HO
      have hixA := hio.run_index (P := Tryz.prog) slInts i (by rw [shoU_length]; exact hih)
      have hcA := hio.cell i (by rw [shoU_length]; exact hih)
      rw [shoU_nth p sh l h i hih, if_neg (by omega)] at hcA
      have ST := Lib.hid (show ((shoU p sh l h i).map (Value.int .i64)).take (i * 1) ++ (Value.cells (.int .i64 (fadd p 0 (fmul p (ptAt p 1 sh i) (nth l i))))).toList ++ ((shoU p sh l h i).map (Value.int .i64)).drop (i * 1 + 1) = (shoU p sh l h (i + 1)).map (Value.int .i64) by rw [set_mid (by rw [shoU_length]; exact hih), shoU_set p sh l h i hih])
      have HPS := Lib.hid (ptAt_succ p 1 sh i)
      obtain ⟨bb, hbb, d1, d2, d3, -⟩ := HD.out.ext HX
      obtain rfl : b = bb := by simpa using hbb
      have HF := Lib.hid (C.out.ext HX)
      have hm : (i : Int) % n = i := Int.emod_eq_of_lt (by omega) (by have := HNN.out; omega)
      have hm2 : (i : Int).tmod n = i := by rw [Int.tmod_eq_emod_of_nonneg (by omega)]; exact hm
      clear hbb hio
      go_wp2_with fail
      refine wp_region_quiet_tail 29 (by kernel_rfl) (by kernel_rfl) ?_
      simp only [List.take_succ_cons, List.take_zero, List.drop_succ_cons, List.drop_zero]
      repeat (go_big_quiet_step ((first | (go_at_call 79; exact mul_q HF.out _ _ _) | (go_at_call 78; exact add_q HF.out _ _ _))))
      refine wpQuiet_nil ?_
      rintro _ ⟨nq, rfl⟩
      have HO4 := own_ext HO (Ext.drewN wr nq)
      have HX4 := HX.trans (Ext.drewN wr nq)
      clear hix hc hixA hcA d1 d2 d3 HO HX HF
      go_wp2_with (refine wpList_set rfl rfl _ _ 3 rfl slInts HO4 i hih rfl (.int .i64 (fadd p 0 (fmul p (ptAt p 1 sh i) (nth l i)))) rfl rfl (by intro u hu; simp [Value.cells] at hu; subst hu; rfl) ?_; intro w7 HO7 HG7)
      rw [ST.out] at HO7
      have HX7 := Ext.own_grown HX4 HO4 HG7
      obtain ⟨bb, hbb, d1, d2, d3, -⟩ := HD.out.ext HX7
      obtain rfl : b = bb := by simpa using hbb
      have HF := Lib.hid (C.out.ext HX7)
      clear hbb HO4 HX4 HG7
      go_wp2_with fail
      go_quiet ((go_at_call 79; exact mul_q HF.out _ _ _))
      have HO8 := own_ext HO7 (Ext.drewN w7 nq)
      have HX8 := HX7.trans (Ext.drewN w7 nq)
      clear d1 d2 d3 HO7 HX7 HF
      go_wp2_with fail
      go_roundw
      case rel => exact ⟨i + 1, by omega, by go_num, by rw [HPS.out], HO8, HX8⟩
      case measure => simp [intOf]; omega
    · obtain rfl : i = l.length := by omega
      have HI := Ints.of_own HO
      obtain ⟨bb, hbb, d1, d2, d3, d4⟩ := HD.out.ext HX
      obtain rfl : b = bb := by simpa using hbb
      clear hbb hil hi HO
      go_wp2_with fail
      refine (spread_any K _ _ bf p g0 n sh r fs (HD.out.ext HX) (C.out.ext HX) v1 (shoU p sh l h l.length) r HI (by rw [shoU_length]; exact HH.out.symm) (Nat.le_trans HK.out (by omega))).mono ?_
      rintro e w3 ⟨u3, rfl, hx3, L, hI3, hL3, hm3, hcase⟩
      obtain ⟨ho3, hb3⟩ : w3.ownsRow _ 3 1 u3 (2 ^ K) (L.map (Value.int .i64)) ∧ ∀ j, j < 2 ^ K → 0 ≤ nth L j ∧ nth L j < p := by
        rcases hcase with ⟨h0, _⟩ | ⟨_, h⟩
        · have := HK1.out; omega
        · exact h
      rw [← HH.out] at hm3 hlen
      have hfin := vals_fin hlen HR.out hL3 hm3 hb3
      subst hfin
      obtain ⟨gb, cap, cur, hv, hbg, hg, hn', hm', -⟩ := elt_own ho3 (show 0 < 2 ^ K by have := HH.out; omega)
      subst hv
      have HI4 := Lib.hid hI3
      have HX3 := Lib.hid (HX.trans hx3)
      have HBG := Lib.hid (show w.heap.size ≤ gb by have := HX.size; omega)
      clear hI3 hL3 hm3 hcase ho3 hb3 hx3 d1 d2 d3 d4 HX
      go_wp2_with (go_at_call 86; refine (clipW_any gb 0 _ cap _ (by omega) (by omega)).mono ?_; rintro e w4 ⟨rfl, rfl⟩)
      go_ret
      refine .mk _ rfl HX3.out ⟨?_, fun k hk => ?_⟩
      · have hl2 := valsL_length p sh r (2 ^ K) l
        have := ints_clip (by rw [hl2]; exact HI4.out)
        rwa [hl2] at this
      · simp [Value.ownBlock] at hk
        have := HBG.out; omega
end Go.Proofs.YtfepefbehgbjpaaGreatDoor
end
section
namespace Go.Att
open Go.RowKit
def valU (p sh r : Int) (a : List Int) (n i : Nat) : List Int := (List.range n).map fun j => if j < i then ev a (ptAt p sh r j) % p else ptAt p sh r j
theorem valU_length (p sh r : Int) (a : List Int) (n i : Nat) : (valU p sh r a n i).length = n := by simp [valU]
theorem valU_nth (p sh r : Int) (a : List Int) (n i : Nat) {j : Nat} (h : j < n) : nth (valU p sh r a n i) j = if j < i then ev a (ptAt p sh r j) % p else ptAt p sh r j := nth_map_range _ _ _ h
theorem valU_zero (p sh r : Int) (a : List Int) (n : Nat) : valU p sh r a n 0 = points p sh r n := by unfold valU points; congr 1
theorem valU_all (p sh r : Int) (a : List Int) (n : Nat) : valU p sh r a n n = valsL p sh r n a := by
  unfold valU valsL
  apply List.map_congr_left
  intro j hj
  rw [if_pos (List.mem_range.1 hj)]
theorem valU_set (p sh r : Int) (a : List Int) (n i : Nat) (_hi : i < n) : (valU p sh r a n i).set i (ev a (ptAt p sh r i) % p) = valU p sh r a n (i + 1) := by
  apply List.ext_getElem (by simp [valU])
  intro j h1 h2
  rw [List.getElem_set]
  simp only [valU, List.getElem_map, List.getElem_range]
  by_cases e : i = j
  · subst e; rw [if_pos rfl, if_pos (by omega)]
  · rw [if_neg e]
    by_cases h : j < i
    · rw [if_pos h, if_pos (by omega)]
    · rw [if_neg h, if_neg (by omega)]
end Go.Att
namespace Go.Proofs.YtfepefbehgbjpaaGreatDoor
open Go.RowKit Go.Att
theorem reval_q (p x : Int) (va : Value) (a : List Int) (w : World) (hp : 2 ≤ p) (hp2 : p ≤ 2147483647) (ha : Ints w va a) (m : Nat) : Calls Tryz.prog 140 #[.int .i64 p, va, .int .i64 x] (w.drewN m) fun e w' => e = .returned (.int .i64 (ev a x % p)) ∧ ∃ k, w' = w.drewN k := (reval_any p x va a _ hp hp2 (ha.drewN m)).mono fun _ _ h => ⟨h.1, m, h.2.symm⟩
set_option maxRecDepth 100000 in
set_option maxHeartbeats 4000000 in
theorem rpoints_any (p n sh r : Int) (w : World) (hp : 2 ≤ p) (hp2 : p ≤ 2147483647) (h0 : 0 ≤ n) (hn : n ≤ 65536) (hsh : 0 ≤ sh ∧ sh < p) :
    Calls Tryz.prog 139 #[.agg #[.int .i64 p, .int .i64 n, .int .i64 sh, .int .i64 r]] w (Gives w fun v w' => w'.ownsRow w.heap.size 3 1 v n.toNat ((points p sh r n.toNat).map (Value.int .i64))) := by
  have HB := Lib.hid (BlkOf.new w [.int .i64 p, .int .i64 n, .int .i64 sh, .int .i64 r] 39)
  have HX0 := Lib.hid (Ext.alloc w (Obj.cells #[.int .i64 p, .int .i64 n, .int .i64 sh, .int .i64 r] 39))
  have HS0 := Lib.hid (ptAt_zero (r := r) hsh)
  go_enter Tryz.func139, Tryz.ntmps139
  have e2 : (w.alloc (Obj.cells #[.int .i64 p, .int .i64 n, .int .i64 sh, .int .i64 r] 39)).cell? ⟨w.heap.size, 2, none⟩ = some (.int .i64 sh) := HB.out.cell 2
  go_wp2_with fail
  clear e2
  generalize hqb : w.heap.size = qb at *
  generalize w.alloc (Obj.cells #[.int .i64 p, .int .i64 n, .int .i64 sh, .int .i64 r] 39) = W at *
  have HQ := Lib.hid hqb
  clear hqb
  go_loopw [3, 4, 5] (fun x3 x4 x5 wr => ∃ i : Nat, (i : Int) ≤ n ∧ x5 = .int .i64 i ∧ x4 = .int .i64 (ptAt p sh r i) ∧ wr.ownsRow W.heap.size 3 1 x3 i ((points p sh r i).map (Value.int .i64)) ∧ Ext W wr) (fun _ _ x5 _ => n.toNat - (intOf x5).toNat)
  case atStart => exact ⟨0, by omega, rfl, by rw [HS0.out], World.ownsRow_nil _ _ _ _, Ext.refl _⟩
  case round =>
    obtain ⟨i, hi, rfl, rfl, HO, HX⟩ := hrel
    have hb := HB.out.ext HX
    have e0 : wr.cell? ⟨qb, 0, none⟩ = some (.int .i64 p) := hb.cell 0
    have e1 : wr.cell? ⟨qb, 1, none⟩ = some (.int .i64 n) := hb.cell 1
    have e3 : wr.cell? ⟨qb, 3, none⟩ = some (.int .i64 r) := hb.cell 3
    clear hb
    by_cases hlt : (i : Int) < n
    · have ST := Lib.hid (points_succ p sh r i)
      have PS := Lib.hid (ptAt_succ p sh r i)
      go_wp2_with (first | (at_builtin; refine wpList_app1 rfl _ _ 22 rfl slInts rfl HX HO rfl _ rfl rfl (by omega) (by omega) ?_; intro v' w2 HO2 HX2 _; clear e0 e1 e3; have hb := HB.out.ext HX2; have e0 : w2.cell? ⟨qb, 0, none⟩ = some (.int .i64 p) := hb.cell 0; have e3 : w2.cell? ⟨qb, 3, none⟩ = some (.int .i64 r) := hb.cell 3; clear hb) | (go_at_call 102; refine (rmul_any _ _ _ _ hp hp2).mono ?_; rintro e w3 ⟨rfl, rfl⟩))
      go_roundw
      case rel => exact ⟨i + 1, by omega, by go_num, by rw [PS.out], by rw [ST.out]; exact HO2, HX2⟩
      case measure => simp [intOf]; omega
    · obtain rfl : n = i := by omega
      go_wp2_with fail
      go_ret
      refine .mk _ rfl (HX0.out.trans HX) ?_
      try rw [Int.toNat_natCast]
      exact own_base HO (by have := HX0.out.size; have := HQ.out; omega)
set_option maxRecDepth 100000 in
set_option maxHeartbeats 4000000 in
theorem rvals_any (p n sh r : Int) (va : Value) (a : List Int) (w : World) (hp : 2 ≤ p) (hp2 : p ≤ 2147483647) (h0 : 0 ≤ n) (hn : n ≤ 65536) (hsh : 0 ≤ sh ∧ sh < p) (ha : Ints w va a) :
    Calls Tryz.prog 98 #[.agg #[.int .i64 p, .int .i64 n, .int .i64 sh, .int .i64 r], va] w (Gives w fun v w' => Ints w' v (valsL p sh r n.toNat a) ∧ NewIn w v) := by
  have HA := Lib.hid ha
  have HB := Lib.hid (BlkOf.new w [.int .i64 p, .int .i64 n, .int .i64 sh, .int .i64 r] 39)
  have HX0 := Lib.hid (Ext.alloc w (Obj.cells #[.int .i64 p, .int .i64 n, .int .i64 sh, .int .i64 r] 39))
  obtain ⟨N, hN⟩ : ∃ N : Nat, n.toNat = N := ⟨_, rfl⟩
  clear ha
  go_enter Tryz.func98, Tryz.ntmps98
  have e0 : (w.alloc (Obj.cells #[.int .i64 p, .int .i64 n, .int .i64 sh, .int .i64 r] 39)).cell? ⟨w.heap.size, 0, none⟩ = some (.int .i64 p) := HB.out.cell 0
  have e1 : (w.alloc (Obj.cells #[.int .i64 p, .int .i64 n, .int .i64 sh, .int .i64 r] 39)).cell? ⟨w.heap.size, 1, none⟩ = some (.int .i64 n) := HB.out.cell 1
  have e2 : (w.alloc (Obj.cells #[.int .i64 p, .int .i64 n, .int .i64 sh, .int .i64 r] 39)).cell? ⟨w.heap.size, 2, none⟩ = some (.int .i64 sh) := HB.out.cell 2
  have e3 : (w.alloc (Obj.cells #[.int .i64 p, .int .i64 n, .int .i64 sh, .int .i64 r] 39)).cell? ⟨w.heap.size, 3, none⟩ = some (.int .i64 r) := HB.out.cell 3
  go_wp2_with fail
  clear e0 e1 e2 e3
  generalize hqb : w.heap.size = qb at *
  generalize w.alloc (Obj.cells #[.int .i64 p, .int .i64 n, .int .i64 sh, .int .i64 r] 39) = W at *
  have HQ := Lib.hid hqb
  clear hqb
  refine (rpoints_any p n sh r W hp hp2 h0 hn hsh).mono ?_
  rintro e w1 ⟨v1, rfl, hx1, HO1⟩
  rw [hN] at HO1
  have hl1 := (Ints.of_own HO1).run_len (P := Tryz.prog) slInts
  rw [points_length] at hl1
  have HO := Lib.hid (show w1.ownsRow W.heap.size 3 1 v1 N ((valU p sh r a N 0).map (Value.int .i64)) by rw [valU_zero]; exact HO1)
  have HX1 := Lib.hid hx1
  clear HO1 hx1
  have hNN : N ≤ 65536 := by omega
  go_wp2_with fail
  go_loopw [6] (fun x6 wr => ∃ i : Nat, i ≤ N ∧ x6 = .int .i64 i ∧ wr.ownsRow W.heap.size 3 1 v1 N ((valU p sh r a N i).map (Value.int .i64)) ∧ Ext W wr) (fun x6 _ => N - (intOf x6).toNat)
  case atStart => exact ⟨0, Nat.zero_le _, rfl, HO.out, HX1.out⟩
  case round =>
    clear HO HX1
    obtain ⟨i, hi, rfl, HO, HX⟩ := hrel
    by_cases hlt : i < N
    · have hio := Ints.of_own HO
      have hixA := hio.run_index (P := Tryz.prog) slInts i (by rw [valU_length]; exact hlt)
      have hcA := hio.cell i (by rw [valU_length]; exact hlt)
      rw [valU_nth p sh r a N i hlt, if_neg (by omega)] at hcA
      have e0 : wr.cell? ⟨qb, 0, none⟩ = some (.int .i64 p) := (HB.out.ext HX).cell 0
      have ST := Lib.hid (show ((valU p sh r a N i).map (Value.int .i64)).take (i * 1) ++ (Value.cells (.int .i64 (ev a (ptAt p sh r i) % p))).toList ++ ((valU p sh r a N i).map (Value.int .i64)).drop (i * 1 + 1) = (valU p sh r a N (i + 1)).map (Value.int .i64) by rw [set_mid (by rw [valU_length]; exact hlt), valU_set p sh r a N i hlt])
      clear hio
      go_wp2_with fail
      refine wp_region_quiet_tail 11 (by kernel_rfl) (by kernel_rfl) ?_
      simp only [List.take_succ_cons, List.take_zero, List.drop_succ_cons, List.drop_zero]
      repeat (go_big_quiet_step ((go_at_call 140; exact reval_q p _ va a wr hp hp2 (HA.out.ext (HX0.out.trans HX)) _)))
      refine wpQuiet_nil ?_
      rintro _ ⟨nq, rfl⟩
      have HO4 := own_ext HO (Ext.drewN wr nq)
      have HX4 := HX.trans (Ext.drewN wr nq)
      clear hixA hcA e0 HO HX
      go_wp2_with (refine wpList_set rfl rfl _ _ 3 rfl slInts HO4 i hlt rfl (.int .i64 (ev a (ptAt p sh r i) % p)) rfl rfl (by intro u hu; simp [Value.cells] at hu; subst hu; rfl) ?_; intro w7 HO7 HG7)
      rw [ST.out] at HO7
      have HX7 := Ext.own_grown HX4 HO4 HG7
      go_roundw
      case rel => exact ⟨i + 1, by omega, by go_num, HO7, HX7⟩
      case measure => simp [intOf]; omega
    · obtain rfl : i = N := by omega
      go_wp2_with fail
      go_ret
      refine .mk _ rfl (HX0.out.trans HX) ⟨?_, fun k hk => ?_⟩
      · have := Ints.of_own HO
        rw [valU_all, ← hN] at this
        exact this
      · have h1 := (HO.lt k hk).1
        have := HX0.out.size; have := HQ.out; omega
end Go.Proofs.YtfepefbehgbjpaaGreatDoor
end
section
namespace Go.Att
open Go.RowKit
theorem com_gcd {n m : Nat} (hn : 1 ≤ n) (h : ∀ d, 2 ≤ d → d ≤ n → ¬ (n % d = 0 ∧ m % d = 0)) : Nat.gcd n m = 1 := by
  apply Classical.byContradiction
  intro hc
  have h0 : 0 < Nat.gcd n m := Nat.gcd_pos_of_pos_left _ hn
  have h1 : Nat.gcd n m ∣ n := Nat.gcd_dvd_left _ _
  have h2 : Nat.gcd n m ∣ m := Nat.gcd_dvd_right _ _
  exact h _ (by omega) (Nat.le_of_dvd hn h1) ⟨Nat.mod_eq_zero_of_dvd h1, Nat.mod_eq_zero_of_dvd h2⟩
theorem gcd_com {n m d : Nat} (h2 : 2 ≤ d) (h : n % d = 0 ∧ m % d = 0) : Nat.gcd n m ≠ 1 := by
  intro hc
  have := Nat.dvd_gcd (Nat.dvd_of_mod_eq_zero h.1) (Nat.dvd_of_mod_eq_zero h.2)
  rw [hc] at this
  have := Nat.le_of_dvd (by omega) this
  omega
theorem modN_cast (n i : Nat) : ((n : Int) % (i : Int) == 0) = (n % i == 0) := by
  rw [Bool.eq_iff_iff, beq_iff_eq, beq_iff_eq]; omega
theorem mixT_snoc (p : Int) (x : List Int) (i : Nat) (hi : i < 8) : ((mixT p x).take (i + 1)).map (Value.int .i64) = ((mixT p x).take i).map (Value.int .i64) ++ [.int .i64 (dotP p (fun j => fmul p (finv p ((i : Int) + j + 8)) (nth x j)) 8)] := by
  rw [List.take_succ_eq_append_getElem (by rw [mixT_length]; exact hi), List.map_append, ← nth_eq, mixT_nth p x hi]; rfl
theorem dot_step (p s _a x : Int) (c : Int) (_h : 0 ≤ s ∧ s < p) : (s + fdiv p x c) % p = fadd p s (fmul p (finv p c) x) := by
  unfold fadd fdiv fmul
  rw [Int.mul_comm x]
def powU (p : Int) (k r : Nat) (x : List Int) (i : Nat) : List Int := (List.range 8).map fun j => if j < i then fpow p (fadd p (nth x j) (cstP p r j)) k else nth x j
theorem powU_length (p : Int) (k r : Nat) (x : List Int) (i : Nat) : (powU p k r x i).length = 8 := by simp [powU]
theorem powU_nth (p : Int) (k r : Nat) (x : List Int) (i : Nat) {j : Nat} (h : j < 8) : nth (powU p k r x i) j = if j < i then fpow p (fadd p (nth x j) (cstP p r j)) k else nth x j := by
  rw [nth_eq (by rw [powU_length]; exact h)]; simp [powU]
theorem powU_zero (p : Int) (k r : Nat) (x : List Int) (hl : x.length = 8) : powU p k r x 0 = x := by
  apply List.ext_getElem (by rw [powU_length, hl])
  intro i h1 h2
  simp [powU, nth_eq h2]
theorem powU_all (p : Int) (k r : Nat) (x : List Int) : powU p k r x 8 = powP p k r x := by
  unfold powU powP
  exact List.map_congr_left fun i hi => by rw [if_pos (List.mem_range.1 hi)]
theorem powU_set (p : Int) (k r : Nat) (x : List Int) (i : Nat) (_hi : i < 8) (v : Int) (hv : v = fpow p (fadd p (nth x i) (cstP p r i)) k) : (powU p k r x i).set i v = powU p k r x (i + 1) := by
  subst hv
  apply List.ext_getElem (by simp [powU])
  intro j h1 h2
  rw [List.getElem_set]
  simp only [powU, List.getElem_map, List.getElem_range]
  by_cases e : i = j
  · subst e; rw [if_pos rfl, if_pos (by omega)]
  · rw [if_neg e]
    by_cases h : j < i
    · rw [if_pos h, if_pos (by omega)]
    · rw [if_neg h, if_neg (by omega)]
theorem fpow_add (p a c : Int) (k : Nat) : fpow p (a + c) k = fpow p (fadd p a c) k := by unfold fpow fadd; rw [pow_mod]
end Go.Att
namespace Go.Proofs.YtfepefbehgbjpaaGreatDoor
open Go.RowKit Go.Att
set_option maxRecDepth 100000 in
set_option maxHeartbeats 4000000 in
theorem rcommon_any (n m : Nat) (w : World) (h1 : 2 ≤ n) (hn : n ≤ 2147483647) (hm : m ≤ 2147483647) :
    Calls Tryz.prog 177 #[.int .i64 n, .int .i64 m] w fun e w' => e = .returned (.bool (decide (Nat.gcd n m ≠ 1))) ∧ w = w' := by
  go_enter Tryz.func177, Tryz.ntmps177
  go_wp2_with fail
  go_loopw [5] (fun x5 wr => ∃ i : Nat, 2 ≤ i ∧ i ≤ n + 1 ∧ x5 = .int .i64 i ∧ Hid (∀ d, 2 ≤ d → d < i → ¬ (n % d = 0 ∧ m % d = 0)) ∧ wr = w) (fun x5 _ => n + 1 - (intOf x5).toNat)
  case atStart => exact ⟨2, by omega, by omega, rfl, Lib.hid (fun d h1 h2 => by omega), rfl⟩
  case round =>
    obtain ⟨i, hi2, hi, rfl, HD, rfl⟩ := hrel
    by_cases hin : i ≤ n
    · have e1 := modN_cast n i
      have e2 := modN_cast m i
      by_cases ha : n % i = 0
      · have ha' : ((n : Int) % (i : Int) == 0) = true := by rw [e1]; simpa using ha
        by_cases hb : m % i = 0
        · have hb' : ((m : Int) % (i : Int) == 0) = true := by rw [e2]; simpa using hb
          have HG := Lib.hid (gcd_com hi2 ⟨ha, hb⟩)
          clear e1 e2 ha hb
          go_wp2_with fail
          go_ret
          exact ⟨ret_bool (by simpa using HG.out), rfl⟩
        · have hb' : ((m : Int) % (i : Int) == 0) = false := by rw [e2]; simpa using hb
          have HD2 := Lib.hid (show ∀ d, 2 ≤ d → d < i + 1 → ¬ (n % d = 0 ∧ m % d = 0) from fun d h1 h2 hc => by
            by_cases e : d = i
            · subst e; exact hb hc.2
            · exact HD.out d h1 (by omega) hc)
          clear e1 e2 ha hb
          go_wp2_with fail
          go_roundw
          case rel => exact ⟨i + 1, by omega, by omega, by go_num, HD2, trivial⟩
          case measure => simp [intOf]; omega
      · have ha' : ((n : Int) % (i : Int) == 0) = false := by rw [e1]; simpa using ha
        have HD2 := Lib.hid (show ∀ d, 2 ≤ d → d < i + 1 → ¬ (n % d = 0 ∧ m % d = 0) from fun d h1 h2 hc => by
            by_cases e : d = i
            · subst e; exact ha hc.1
            · exact HD.out d h1 (by omega) hc)
        clear e1 e2 ha
        go_wp2_with fail
        go_roundw
        case rel => exact ⟨i + 1, by omega, by omega, by go_num, HD2, trivial⟩
        case measure => simp [intOf]; omega
    · have HG := Lib.hid (com_gcd (n := n) (m := m) (by omega) (fun d h1 h2 => HD.out d h1 (by omega)))
      go_wp2_with fail
      go_ret
      exact ⟨ret_bool (by simpa using HG.out), rfl⟩
set_option maxRecDepth 100000 in
set_option maxHeartbeats 4000000 in
theorem rpower_any (p : Int) (k : Nat) (w : World) (h23 : 23 ≤ p) (hp2 : p ≤ 2147483647) (hk : IsPw p k) :
    Calls Tryz.prog 165 #[.int .i64 p] w fun e w' => e = .returned (.int .i64 k) ∧ w = w' := by
  obtain ⟨hk2, hkg, hkl⟩ := hk
  have hkp : (k : Int) < p := by
    apply Classical.byContradiction
    intro hc
    exact hkl (p - 2).toNat (by omega) (by omega) (gcd_last h23)
  have HKG := Lib.hid hkg; have HKL := Lib.hid hkl
  obtain ⟨m, hm⟩ : ∃ m : Nat, (p - 1) = m ∧ (p - 1).toNat = m := ⟨(p - 1).toNat, by omega, rfl⟩
  have hm1 := hm.1
  have HM := Lib.hid hm
  clear hkg hkl hm
  go_enter Tryz.func165, Tryz.ntmps165
  go_wp2_with fail
  go_loopw [3, 4] (fun x3 _ wr => ∃ n : Nat, 2 ≤ n ∧ n ≤ k ∧ x3 = .int .i64 n ∧ wr = w) (fun x3 _ _ => k - (intOf x3).toNat)
  case atStart => exact ⟨2, by omega, by omega, rfl, rfl⟩
  case round =>
    obtain ⟨n, hn2, hnk, rfl, rfl⟩ := hrel
    by_cases hlt : n < k
    · have HC := Lib.hid (show decide (Nat.gcd n m ≠ 1) = true from by rw [decide_eq_true_iff, ← HM.out.2]; exact HKL.out n hn2 hlt)
      go_wp2_with (go_at_call 177; refine (rcommon_any n m _ hn2 (by omega) (by omega)).mono ?_; rw [HC.out]; rintro e w' ⟨rfl, rfl⟩)
      go_roundw
      case rel => exact ⟨n + 1, by omega, by omega, by go_num, trivial⟩
      case measure => simp [intOf]; omega
    · obtain rfl : n = k := by omega
      have HC := Lib.hid (show decide (Nat.gcd n m ≠ 1) = false from by rw [decide_eq_false_iff_not, ← HM.out.2]; simpa using HKG.out)
      go_wp2_with (go_at_call 177; refine (rcommon_any n m _ hn2 (by omega) (by omega)).mono ?_; rw [HC.out]; rintro e w' ⟨rfl, rfl⟩)
      go_ret
      exact ⟨rfl, rfl⟩
set_option maxRecDepth 100000 in
set_option maxHeartbeats 4000000 in
theorem rconst_any (p : Int) (r i : Nat) (w : World) (hp : 2 ≤ p) (hp2 : p ≤ 2147483647) (hr : r < 8) (hi : i < 8) :
    Calls Tryz.prog 166 #[.int .i64 p, .int .i64 r, .int .i64 i] w fun e w' => e = .returned (.int .i64 (cstP p r i)) ∧ w = w' := by
  have hr2 : ¬ (7 : Int) < r := by omega
  have hi2 : ¬ (7 : Int) < i := by omega
  have hr3 : (r : Int) ≤ 7 := by omega
  have hi3 : (i : Int) ≤ 7 := by omega
  go_enter Tryz.func166, Tryz.ntmps166
  go_wp2_with (first | (go_at_call 94; refine (rpow_any p _ 5 _ hp hp2 (by omega)).mono ?_; rintro e w' ⟨rfl, rfl⟩) | (go_at_call 103; refine (radd_any _ _ _ _ hp hp2).mono ?_; rintro e w' ⟨rfl, rfl⟩))
  go_ret
  exact ⟨rfl, rfl⟩
end Go.Proofs.YtfepefbehgbjpaaGreatDoor
end
section
namespace Go.Proofs.YtfepefbehgbjpaaGreatDoor
open Go.RowKit Go.Att
theorem row8_kept {W : World} {b q : Nat} {cs : List Value} {t : TypeId} (h : BlkOf W b cs t) (hne : some b ≠ some q) (a0 a1 a2 a3 a4 a5 a6 a7 : Int) :
    BlkOf ((((((((W.setCell ⟨q, 0, none⟩ (.int .i64 a0)).setCell ⟨q, 1, none⟩ (.int .i64 a1)).setCell ⟨q, 2, none⟩ (.int .i64 a2)).setCell ⟨q, 3, none⟩ (.int .i64 a3)).setCell ⟨q, 4, none⟩ (.int .i64 a4)).setCell ⟨q, 5, none⟩ (.int .i64 a5)).setCell ⟨q, 6, none⟩ (.int .i64 a6)).setCell ⟨q, 7, none⟩ (.int .i64 a7)) b cs t :=
  (((((((h.grown (setCell_grown _ _ _ _) hne).grown (setCell_grown _ _ _ _) hne).grown (setCell_grown _ _ _ _) hne).grown (setCell_grown _ _ _ _) hne).grown (setCell_grown _ _ _ _) hne).grown (setCell_grown _ _ _ _) hne).grown (setCell_grown _ _ _ _) hne).grown (setCell_grown _ _ _ _) hne
section
variable {w : World} {b bf k : Nat} {p g rt : Int} {fs : List Int}
set_option maxRecDepth 100000 in
set_option maxHeartbeats 8000000 in
theorem permuted_any (hs : SpB w b (.pointer (some ⟨bf, 0, none⟩)) k rt (fun r j => finv p ((r : Int) + j + 8))) (hf : Fld w (.pointer (some ⟨bf, 0, none⟩)) p g fs) (hk : (k : Int) ≤ 9223372036854775807) (x : List Int) (hl : x.length = 8) :
    Calls Tryz.prog 120 #[.pointer (some ⟨b, 0, none⟩), st8 x] w (Gives w fun u _ => u = st8 (permP p k x 8)) := by
  have HF := Lib.hid hf; have HS := Lib.hid hs
  have HL0 := Lib.hid hl
  clear hf hs hl
  unfold st8
  go_enter Tryz.func120, Tryz.ntmps120
  go_wp2_with fail
  obtain ⟨W0, hW0⟩ : ∃ W0, W0 = ((w.alloc (Obj.cells #[.int .i64 (nth x 0), .int .i64 (nth x 1), .int .i64 (nth x 2), .int .i64 (nth x 3), .int .i64 (nth x 4), .int .i64 (nth x 5), .int .i64 (nth x 6), .int .i64 (nth x 7)] 109)).alloc (Obj.cells #[.int .i64 0, .int .i64 0, .int .i64 0, .int .i64 0, .int .i64 0, .int .i64 0, .int .i64 0, .int .i64 0] 109)) := ⟨_, rfl⟩
  rw [← hW0]
  have HX0 := Lib.hid (show Ext w W0 from by rw [hW0]; exact (Ext.alloc w _).trans (Ext.alloc _ _))
  have HBX := Lib.hid (show BlkOf W0 w.heap.size (c8 (permP p k x 0)) 109 from by rw [hW0]; exact (BlkOf.new w (c8 x) 109).ext (Ext.alloc _ _))
  have HBR := Lib.hid (show BlkOf W0 (w.heap.size + 1) (c8 (List.replicate 8 0)) 109 from by rw [hW0]; have h := (BlkOf.new (w.alloc (Obj.cells (c8 x).toArray 109)) (c8 (List.replicate 8 0)) 109); rw [show (w.alloc (Obj.cells (c8 x).toArray 109)).heap.size = w.heap.size + 1 from by simp] at h; exact h)
  clear hW0
  go_loopw [5, 6, 7, 10] (fun _ _ x7 _ wr => ∃ r : Nat, r ≤ 8 ∧ x7 = .int .i64 r ∧ Hid (BlkOf wr w.heap.size (c8 (permP p k x r)) 109) ∧ Hid (BlkOf wr (w.heap.size + 1) (c8 (List.replicate 8 0)) 109) ∧ Hid (Ext w wr)) (fun _ _ x7 _ _ => 8 - (intOf x7).toNat)
  case atStart => exact ⟨0, by omega, rfl, HBX, HBR, HX0⟩
  case round =>
    clear HBX HBR HX0
    obtain ⟨r, hr, rfl, HBX, HBR, HX⟩ := hrel
    by_cases hr8 : r < 8
    · have hr88 : (r : Int) < 8 := by omega
      have HLX := Lib.hid (permP_length p k HL0.out r)
      have HSX := Lib.hid (show permP p k x (r + 1) = mixT p (powP p k r (permP p k x r)) from rfl)
      generalize permP p k x r = X at *
      have HBX0 := Lib.hid (show BlkOf wr w.heap.size (c8 (powU p k r X 0)) 109 from by rw [powU_zero p k r X HLX.out]; exact HBX.out)
      clear HBX
      go_wp2_with fail
      go_loopw [6, 10] (fun _ x10 wq => ∃ i : Nat, i ≤ 8 ∧ x10 = .int .i64 i ∧ Hid (BlkOf wq w.heap.size (c8 (powU p k r X i)) 109) ∧ Hid (BlkOf wq (w.heap.size + 1) (c8 (List.replicate 8 0)) 109) ∧ Hid (Ext w wq)) (fun _ x10 _ => 8 - (intOf x10).toNat)
      case atStart => exact ⟨0, by omega, rfl, HBX0, HBR, HX⟩
      case round =>
        clear HBX0 HBR HX
        obtain ⟨i, hi, rfl, HBX, HBR, HX⟩ := hrel
        by_cases hi8 : i < 8
        · have hi88 : (i : Int) < 8 := by omega
          have hp1 := fun w' => ptr8 w.heap.size 0 i hi8 w'
          simp only [Nat.zero_add] at hp1
          have d1 : wr.cell? ⟨w.heap.size, i, none⟩ = some (.int .i64 (nth (powU p k r X i) i)) := (HBX.out.cell i).trans (c8_at _ i hi8)
          rw [powU_nth p k r X i hi8, if_neg (by omega)] at d1
          have d3 := HBX.out.free i
          have HSW := Lib.hid (HS.out.ext HX.out)
          have d0 := HSW.out.c0
          have dk := HSW.out.c1
          have HFW := Lib.hid (HF.out.ext HX.out)
          have HST := Lib.hid (powU_set p k r X i hi8 _ rfl)
          have HC8 := Lib.hid (fun v => c8_set (powU p k r X i) i v (powU_length p k r X i) hi8)
          generalize nth X i = xi at *
          have CC := fun m => constant_any (HSW.out.ext (Ext.drewN wr m)) (HFW.out.drewN m) r i hr8 hi8
          generalize cstP p r i = ci at *
          go_wp2_with fail
          refine wp_region_quiet_tail 23 (by kernel_rfl) (by kernel_rfl) ?_
          simp only [List.take_succ_cons, List.take_zero, List.drop_succ_cons, List.drop_zero]
          repeat (go_big_quiet_step (first | (go_at_call 32; exact pow_q HFW.out _ _ (by omega) (by omega) _) | (go_at_call 78; exact add_q HFW.out _ _ _) | (go_at_call 150; exact Calls.quiet_of (CC _))))
          refine wpQuiet_nil ?_
          rintro _ ⟨nq, rfl⟩
          have HX5 := Lib.hid (HX.out.trans (Ext.drewN wr nq))
          have HBX5 := Lib.hid (HBX.out.ext (Ext.drewN wr nq))
          have HBR5 := Lib.hid (HBR.out.ext (Ext.drewN wr nq))
          clear hp1 d0 dk HX HBX HBR CC
          go_wp2_with fail
          go_roundw
          case rel => exact ⟨i + 1, by omega, by go_num, Lib.hid (by have h := HBX5.out.set i (.int .i64 (fpow p (fadd p xi ci) k)); rw [HC8.out, HST.out] at h; exact h), Lib.hid (HBR5.out.grown (setCell_grown _ _ _ _) (by simp)), Lib.hid (Below.setCell HX5.out (Nat.le_refl _) _)⟩
          case measure => simp [intOf]; omega
        · obtain rfl : i = 8 := by omega
          obtain ⟨m0, m1, m2, m3, m4, m5, m6, m7⟩ := blk8 HBX.out
          have HSW := Lib.hid (HS.out.ext HX.out)
          have HFW := Lib.hid (HF.out.ext HX.out)
          go_wp2_with fail
          refine wp_region_quiet_tail 5 (by kernel_rfl) (by kernel_rfl) ?_
          simp only [List.take_succ_cons, List.take_zero, List.drop_succ_cons, List.drop_zero]
          repeat (go_big_quiet_step (fail))
          refine wpQuiet_nil ?_
          rintro _ ⟨nq, rfl⟩
          have HX5 := Lib.hid (HX.out.trans (Ext.drewN wr nq))
          have HBX5 := Lib.hid (HBX.out.ext (Ext.drewN wr nq))
          have HBR5 := Lib.hid (HBR.out.ext (Ext.drewN wr nq))
          have HS5 := Lib.hid (HSW.out.ext (Ext.drewN wr nq))
          have HF5 := Lib.hid (HFW.out.drewN nq)
          clear m0 m1 m2 m3 m4 m5 m6 m7 HX HBX HBR HSW HFW
          generalize World.drewN wr nq = W5 at *
          go_wp2_with (go_at_call 151; refine (times_any HS5.out.c0 HF5.out HS5.out.mx (powU p k r X 8)).mono ?_; rw [mixU_all, powU_all]; rintro e w8 ⟨v8, rfl, hx8, rfl⟩; unfold st8; have HX8 := Lib.hid (HX5.out.trans hx8); have HBX8 := Lib.hid (HBX5.out.ext hx8); have HBR8 := Lib.hid (HBR5.out.ext hx8); obtain ⟨n0, n1, n2, n3, n4, n5, n6, n7⟩ := blk8 HBX8.out; have s0 := HBX8.out.free 0; have s1 := HBX8.out.free 1; have s2 := HBX8.out.free 2; have s3 := HBX8.out.free 3; have s4 := HBX8.out.free 4; have s5 := HBX8.out.free 5; have s6 := HBX8.out.free 6; have s7 := HBX8.out.free 7; clear hx8)
          generalize hY : mixT p (powP p k r X) = Y at *
          obtain ⟨hb, hx⟩ := at_row8 HBX8.out (nth Y 0) (nth Y 1) (nth Y 2) (nth Y 3) (nth Y 4) (nth Y 5) (nth Y 6) (nth Y 7) (Nat.le_refl _) HX8.out
          have hn := row8_kept HBR8.out (q := w.heap.size) (by simp) (nth Y 0) (nth Y 1) (nth Y 2) (nth Y 3) (nth Y 4) (nth Y 5) (nth Y 6) (nth Y 7)
          go_roundw
          case rel => exact ⟨r + 1, by omega, by go_num, Lib.hid (by rw [HSX.out]; exact hb), Lib.hid hn, Lib.hid hx⟩
          case measure => simp [intOf]; omega
    · obtain rfl : r = 8 := by omega
      obtain ⟨m0, m1, m2, m3, m4, m5, m6, m7⟩ := blk8 HBX.out
      obtain ⟨r0, r1, r2, r3, r4, r5, r6, r7⟩ := blk8 HBR.out
      have s0 := HBR.out.free 0
      have s1 := HBR.out.free 1
      have s2 := HBR.out.free 2
      have s3 := HBR.out.free 3
      have s4 := HBR.out.free 4
      have s5 := HBR.out.free 5
      have s6 := HBR.out.free 6
      have s7 := HBR.out.free 7
      go_wp2_with fail
      obtain ⟨hb, hx⟩ := at_row8 HBR.out (nth (permP p k x 8) 0) (nth (permP p k x 8) 1) (nth (permP p k x 8) 2) (nth (permP p k x 8) 3) (nth (permP p k x 8) 4) (nth (permP p k x 8) 5) (nth (permP p k x 8) 6) (nth (permP p k x 8) 7) (by omega) HX.out
      refine bodyPost_ret (results_cell_row rfl _ _ (w.heap.size + 1) 109 _ _ _ rfl hb Tryz.underlying109 rfl (by kernel_rfl)) rfl ?_
      exact .mk _ rfl hx rfl
end
end Go.Proofs.YtfepefbehgbjpaaGreatDoor
end
section
namespace Go.Att
open Go.RowKit
def Els (p : Int) (x : List Int) : Prop := ∀ i, i < x.length → 0 ≤ nth x i ∧ nth x i < p
theorem dot_bd {p : Int} (hp : 2 ≤ p) (f : Nat → Int) (j : Nat) : 0 ≤ dotP p f j ∧ dotP p f j < p := by
  cases j with
  | zero => simp [dotP]; omega
  | succ j => exact fadd_bd hp _ _
theorem els_mix {p : Int} (hp : 2 ≤ p) (x : List Int) : Els p (mixT p x) := fun i hi => by
  rw [mixT_length] at hi
  rw [mixT_nth p x hi]; exact dot_bd hp _ _
theorem els_perm {p : Int} (hp : 2 ≤ p) (k : Nat) {x : List Int} (h : Els p x) (r : Nat) : Els p (permP p k x r) := by
  cases r with
  | zero => exact h
  | succ r => exact els_mix hp _
theorem els_map {p : Int} (hp : 2 ≤ p) (x : List Int) : Els p (x.map (fof p)) := fun i hi => by
  rw [nth_eq hi, List.getElem_map]; exact fof_bd hp _
theorem els_fof {p : Int} {x : List Int} (h : Els p x) : x.map (fof p) = x := by
  apply List.ext_getElem (by simp)
  intro i h1 h2
  have := h i h2
  rw [nth_eq h2] at this
  rw [List.getElem_map]
  exact Int.emod_eq_of_lt this.1 this.2
theorem set_map (l : List Int) (i : Nat) (h : i < l.length) (x : Int) : (l.map (Value.int .i64)).take (i * 1) ++ (Value.cells (.int .i64 x)).toList ++ (l.map (Value.int .i64)).drop (i * 1 + 1) = (l.set i x).map (Value.int .i64) := by
  rw [set_mid h]
end Go.Att
namespace Go.Proofs.YtfepefbehgbjpaaGreatDoor
open Go.RowKit Go.Att
set_option maxHeartbeats 1000000 in
theorem rallO_any (p : Int) (v : Value) (l : List Int) (w : World) (hv : Ints w v l) (hp : 2 ≤ p) (hp2 : p ≤ 2147483647) (hs : l.length ≤ 4294967295) :
    Calls Tryz.prog 107 #[.int .i64 p, v] w (Gives w fun v' w' => w'.ownsRow w.heap.size 3 1 v' l.length ((l.map (fof p)).map (Value.int .i64))) := by
  have hl := hv.run_len (P := Tryz.prog) slInts
  have HV := Lib.hid hv; clear hv
  go_enter Tryz.func107, Tryz.ntmps107
  go_wp2
  go_loopw [5, 6] (fun x5 x6 wr => ∃ i : Nat, x6 = .int .i64 i ∧ i ≤ l.length ∧ wr.ownsRow w.heap.size 3 1 x5 i (((l.take i).map (fof p)).map (Value.int .i64)) ∧ Ext w wr) (fun _ x6 _ => l.length - (intOf x6).toNat)
  case atStart => exact ⟨0, rfl, Nat.zero_le _, World.ownsRow_nil _ _ _ _, Ext.refl _⟩
  case round =>
    obtain ⟨i, rfl, hi1, HO, HX⟩ := hrel
    by_cases hlt : i < l.length
    · have hix := HV.out.run_index (P := Tryz.prog) slInts i hlt
      have hcell := (HV.out.ext HX).cell i hlt
      go_wp2_with (first | (go_at_call 40; refine (rof_any _ _ _ hp hp2).mono ?_; rintro e w' ⟨rfl, rfl⟩) | (at_builtin; refine wpList_app1 rfl _ _ 22 rfl slInts rfl HX HO rfl _ rfl rfl (by omega) (by omega) ?_; intro v' w1 HO' HX' _))
      go_roundw
      case rel => exact ⟨i + 1, by go_num, by omega, by rw [take_snoc_map _ hlt]; simpa using HO', HX'⟩
      case measure => simp [intOf]; omega
    · obtain rfl : i = l.length := by omega
      go_wp2_with fail
      go_ret
      exact .mk _ rfl HX (by rw [List.take_length] at HO; exact HO)
set_option maxRecDepth 100000 in
set_option maxHeartbeats 4000000 in
theorem rmix_any (p : Int) (v : Value) (x : List Int) (w : World) (hp : 2 ≤ p) (hp2 : p ≤ 2147483647) (hv : Ints w v x) (hl : x.length = 8) :
    Calls Tryz.prog 167 #[.int .i64 p, v] w (Gives w fun u w' => w'.ownsRow w.heap.size 3 1 u 8 ((mixT p x).map (Value.int .i64))) := by
  have HV := Lib.hid hv; have HL := Lib.hid hl
  clear hv hl
  go_enter Tryz.func167, Tryz.ntmps167
  go_wp2_with fail
  go_loopw [5, 6, 7, 8, 9] (fun x5 x6 _ _ _ wr => ∃ i : Nat, i ≤ 8 ∧ x6 = .int .i64 i ∧ wr.ownsRow w.heap.size 3 1 x5 i (((mixT p x).take i).map (Value.int .i64)) ∧ Ext w wr) (fun _ x6 _ _ _ _ => 8 - (intOf x6).toNat)
  case atStart => exact ⟨0, by omega, rfl, World.ownsRow_nil _ _ _ _, Ext.refl _⟩
  case round =>
    obtain ⟨i, hi, rfl, HO, HX⟩ := hrel
    by_cases hi8 : i < 8
    · have HOH := Lib.hid HO; have HXH := Lib.hid HX
      have ST := Lib.hid (mixT_snoc p x i hi8)
      have hi88 : (i : Int) < 8 := by omega
      clear HO HX
      go_wp2_with fail
      generalize wr = w9 at *
      go_loopw [7, 8, 9] (fun x7 x8 _ wq => ∃ j : Nat, j ≤ 8 ∧ x8 = .int .i64 j ∧ x7 = .int .i64 (dotP p (fun j => fmul p (finv p ((i : Int) + j + 8)) (nth x j)) j) ∧ wq = w9) (fun _ x8 _ _ => 8 - (intOf x8).toNat)
      case atStart => exact ⟨0, by omega, rfl, rfl, rfl⟩
      case round =>
        obtain ⟨j, hj, rfl, rfl, rfl⟩ := hrel
        by_cases hj8 : j < 8
        · have hix := HV.out.run_index (P := Tryz.prog) slInts j (by rw [HL.out]; exact hj8)
          have hc := (HV.out.ext HXH.out).cell j (by rw [HL.out]; exact hj8)
          have hj88 : (j : Int) < 8 := by omega
          have hb := dot_bd hp (fun j => fmul p (finv p ((i : Int) + j + 8)) (nth x j)) j
          have HS := Lib.hid (show dotP p (fun j => fmul p (finv p ((i : Int) + j + 8)) (nth x j)) (j + 1) = fadd p (dotP p (fun j => fmul p (finv p ((i : Int) + j + 8)) (nth x j)) j) (fmul p (finv p ((i : Int) + j + 8)) (nth x j)) from rfl)
          generalize dotP p (fun j => fmul p (finv p ((i : Int) + j + 8)) (nth x j)) j = S at *
          generalize nth x j = xj at *
          have HD := Lib.hid (dot_step p S 0 xj ((i : Int) + j + 8) hb)
          have hY := fdiv_bd hp xj ((i : Int) + j + 8)
          have hw1 : IntKind.i64.wrap (S + fdiv p xj ((i : Int) + j + 8)) = S + fdiv p xj ((i : Int) + j + 8) := IntWalk.i64_in _ (by omega)
          have hq : (S + fdiv p xj ((i : Int) + j + 8)).tmod p = (S + fdiv p xj ((i : Int) + j + 8)) % p := Int.tmod_eq_emod_of_nonneg (by omega)
          go_wp2_with (go_at_call 178; refine (rdiv_any _ _ _ _ hp hp2).mono ?_; rintro e w' ⟨rfl, rfl⟩)
          go_roundw
          case rel => exact ⟨j + 1, by omega, by go_num, by rw [HS.out, ← HD.out], trivial⟩
          case measure => simp [intOf]; omega
        · obtain rfl : j = 8 := by omega
          generalize dotP p (fun j => fmul p (finv p ((i : Int) + j + 8)) (nth x j)) 8 = S at *
          have HXo := HXH.out
          have HOo := HOH.out
          go_wp2_with (at_builtin; refine wpList_app1 rfl _ _ 22 rfl slInts rfl HXo HOo rfl _ rfl rfl (by omega) (by omega) ?_; intro v' w2 HO2 HX2 _)
          go_roundw
          case rel => exact ⟨i + 1, by omega, by go_num, by rw [ST.out]; exact HO2, HX2⟩
          case measure => simp [intOf]; omega
    · obtain rfl : i = 8 := by omega
      go_wp2_with fail
      go_ret
      exact .mk _ rfl HX (by rw [List.take_of_length_le (by rw [mixT_length]; exact Nat.le_refl _)] at HO; exact HO)
end Go.Proofs.YtfepefbehgbjpaaGreatDoor
end
