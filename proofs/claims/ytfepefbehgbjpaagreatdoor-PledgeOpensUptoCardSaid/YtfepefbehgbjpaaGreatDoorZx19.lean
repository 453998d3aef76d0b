/- The numbers modulo a prime, as the document has them and as the program has them: contracts. Circuits: gates as triples, layers as slices of slices of them; how wide a layer is. What a table is at a point, the document's side: contracts. (begun from the seat's starting text UptoLemmas) What the bound on the arguments' bulk gives. What the bound on the bulk gives for lists of lists. -/
import Derived.Test.YtfepefbehgbjpaaGreatDoorZx1
import Derived.Test.YtfepefbehgbjpaaGreatDoorProg
import Derived.StillTailTactics
import Derived.Test.YtfepefbehgbjpaaGreatDoorZx8
import Derived.Test.YtfepefbehgbjpaaGreatDoorRows
import Derived.Test.YtfepefbehgbjpaaGreatDoorZx12
section
/-! The numbers modulo a prime, as the document has them and as the program has them: contracts. -/
namespace Go.Proofs.YtfepefbehgbjpaaGreatDoor
open Go.RowKit Go.Att

set_option maxHeartbeats 400000 in
theorem rof_any (p n : Int) (w : World) (hp : 2 ≤ p) (hp2 : p ≤ 2147483647) :
    Calls Tryz.prog 40 #[.int .i64 p, .int .i64 n] w fun e w' => e = .returned (.int .i64 (fof p n)) ∧ w = w' := by
  obtain ⟨h1, h2, h3, h4⟩ := tm hp n
  have H3 := Lib.hid h3; have H4 := Lib.hid h4; clear h3 h4
  go_enter Tryz.func40, Tryz.ntmps40
  go_wp2
  · have hn : n.tmod p < 0 := by assumption
    go_ret; exact ⟨ret_int (H3.out hn), rfl⟩
  · have hn : 0 ≤ n.tmod p := by assumption
    go_ret; exact ⟨ret_int (H4.out hn), rfl⟩

set_option maxHeartbeats 400000 in
theorem radd_any (p a b : Int) (w : World) (hp : 2 ≤ p) (hp2 : p ≤ 2147483647) :
    Calls Tryz.prog 103 #[.int .i64 p, .int .i64 a, .int .i64 b] w fun e w' => e = .returned (.int .i64 (fadd p a b)) ∧ w = w' := by
  have hx := fof_bd hp a
  have hy := fof_bd hp b
  go_enter Tryz.func103, Tryz.ntmps103
  go_wp2_with (go_at_call 40; refine (rof_any _ _ _ hp hp2).mono ?_; rintro e w' ⟨rfl, rfl⟩)
  go_ret; exact ⟨ret_int (fadd_of _ _ _), rfl⟩

set_option maxHeartbeats 400000 in
theorem rsub_any (p a b : Int) (w : World) (hp : 2 ≤ p) (hp2 : p ≤ 2147483647) :
    Calls Tryz.prog 179 #[.int .i64 p, .int .i64 a, .int .i64 b] w fun e w' => e = .returned (.int .i64 (fsub p a b)) ∧ w = w' := by
  have hx := fof_bd hp a
  have hy := fof_bd hp b
  go_enter Tryz.func179, Tryz.ntmps179
  go_wp2_with (go_at_call 40; refine (rof_any _ _ _ hp hp2).mono ?_; rintro e w' ⟨rfl, rfl⟩)
  go_ret; exact ⟨ret_int (fsub_of' _ _ _), rfl⟩

set_option maxHeartbeats 400000 in
theorem rmul_any (p a b : Int) (w : World) (hp : 2 ≤ p) (hp2 : p ≤ 2147483647) :
    Calls Tryz.prog 102 #[.int .i64 p, .int .i64 a, .int .i64 b] w fun e w' => e = .returned (.int .i64 (fmul p a b)) ∧ w = w' := by
  have hx := fof_bd hp a
  have hy := fof_bd hp b
  have hm := mul_small hp hp2 hx hy
  go_enter Tryz.func102, Tryz.ntmps102
  go_wp2_with (go_at_call 40; refine (rof_any _ _ _ hp hp2).mono ?_; rintro e w' ⟨rfl, rfl⟩)
  go_ret; exact ⟨ret_int (fmul_of _ _ _), rfl⟩

/-! The program's. -/
section
variable {w : World} {f : Value} {p g : Int} {fs : List Int}
set_option maxHeartbeats 400000 in
theorem of_any (hf : Fld w f p g fs) (n : Int) :
    Calls Tryz.prog 66 #[f, .int .i64 n] w (Rd w (.int .i64 (fof p n))) := by
  obtain ⟨⟨b, v, rfl, hc, -, -, -⟩, -, lo, hi⟩ := hf
  obtain ⟨h1, h2, h3, h4⟩ := tm (show 2 ≤ p by omega) n
  have H3 := Lib.hid h3; have H4 := Lib.hid h4; clear h3 h4
  go_enter Tryz.func66, Tryz.ntmps66
  go_wp2
  · have hn : n.tmod p < 0 := by assumption
    go_ret; exact .same (ret_int (H3.out hn))
  · have hn : 0 ≤ n.tmod p := by assumption
    go_ret; exact .same (ret_int (H4.out hn))

theorem of_q (hf : Fld w f p g fs) (x : Int) (n : Nat) :
    Calls Tryz.prog 66 #[f, .int .i64 x] (w.drewN n) fun e w'' => e = .returned (.int .i64 (fof p x)) ∧ ∃ m, w'' = w.drewN m := Calls.quiet_of (of_any (hf.drewN n) x)

set_option maxHeartbeats 400000 in
theorem add_any (hf : Fld w f p g fs) (a b : Int) :
    Calls Tryz.prog 78 #[f, .int .i64 a, .int .i64 b] w (Rd w (.int .i64 (fadd p a b))) := by
  have C := Lib.hid hf
  obtain ⟨⟨b', v, hf', hc, -, -, -⟩, -, lo, hi⟩ := hf
  have hx := fof_bd (show 2 ≤ p by omega) a
  have hy := fof_bd (show 2 ≤ p by omega) b
  subst hf'
  go_enter Tryz.func78, Tryz.ntmps78
  go_wp2
  go_quiet ((go_at_call 66; exact of_q C.out _ _))
  go_wp2
  go_ret; exact .more _ (ret_int (fadd_of _ _ _))
theorem add_q (hf : Fld w f p g fs) (x y : Int) (n : Nat) :
    Calls Tryz.prog 78 #[f, .int .i64 x, .int .i64 y] (w.drewN n) fun e w'' => e = .returned (.int .i64 (fadd p x y)) ∧ ∃ m, w'' = w.drewN m := Calls.quiet_of (add_any (hf.drewN n) x y)

set_option maxHeartbeats 400000 in
theorem mul_any (hf : Fld w f p g fs) (a b : Int) :
    Calls Tryz.prog 79 #[f, .int .i64 a, .int .i64 b] w (Rd w (.int .i64 (fmul p a b))) := by
  have C := Lib.hid hf
  obtain ⟨⟨b', v, hf', hc, -, -, -⟩, -, lo, hi⟩ := hf
  have hx := fof_bd (show 2 ≤ p by omega) a
  have hy := fof_bd (show 2 ≤ p by omega) b
  have hm := mul_small (by omega) hi hx hy
  subst hf'
  go_enter Tryz.func79, Tryz.ntmps79
  go_wp2
  go_quiet ((go_at_call 66; exact of_q C.out _ _))
  go_wp2
  go_ret; exact .more _ (ret_int (fmul_of _ _ _))
theorem mul_q (hf : Fld w f p g fs) (x y : Int) (n : Nat) :
    Calls Tryz.prog 79 #[f, .int .i64 x, .int .i64 y] (w.drewN n) fun e w'' => e = .returned (.int .i64 (fmul p x y)) ∧ ∃ m, w'' = w.drewN m := Calls.quiet_of (mul_any (hf.drewN n) x y)

set_option maxHeartbeats 400000 in
theorem sub_any (hf : Fld w f p g fs) (a b : Int) :
    Calls Tryz.prog 82 #[f, .int .i64 a, .int .i64 b] w (Rd w (.int .i64 (fsub p a b))) := by
  have hx := fof_bd hf.two a
  have hy := fof_bd hf.two b
  have hi := hf.hi
  have C := Lib.hid hf; clear hf
  go_enter Tryz.func82, Tryz.ntmps82
  go_wp2_with (go_at_call 66; (first | refine (of_any C.out _).mono ?_ | refine (of_any (C.out.drewN _) _).mono ?_); rintro e w' ⟨rfl, n, rfl⟩)
  go_ret; exact .more _ (ret_int (fsub_of _ _ _))
theorem sub_q (hf : Fld w f p g fs) (x y : Int) (n : Nat) :
    Calls Tryz.prog 82 #[f, .int .i64 x, .int .i64 y] (w.drewN n) fun e w'' => e = .returned (.int .i64 (fsub p x y)) ∧ ∃ m, w'' = w.drewN m := Calls.quiet_of (sub_any (hf.drewN n) x y)
end
end Go.Proofs.YtfepefbehgbjpaaGreatDoor
/-! The document's sums and products in a region that draws. -/
namespace Go.Proofs.YtfepefbehgbjpaaGreatDoor
open Go.RowKit Go.Att
theorem rmul_q (p a b : Int) (w : World) (n : Nat) (hp : 2 ≤ p) (hp2 : p ≤ 2147483647) :
    Calls Tryz.prog 102 #[.int .i64 p, .int .i64 a, .int .i64 b] (w.drewN n) fun e w'' => e = .returned (.int .i64 (fmul p a b)) ∧ ∃ m, w'' = w.drewN m := (rmul_any p a b _ hp hp2).mono fun _ _ h => ⟨h.1, n, h.2.symm⟩
end Go.Proofs.YtfepefbehgbjpaaGreatDoor
/-! Powers, primes, the making of a field: contracts. -/
namespace Go.Proofs.YtfepefbehgbjpaaGreatDoor
open Go.RowKit Go.Att

section
variable {w : World} {f : Value} {p g : Int} {fs : List Int}
set_option maxHeartbeats 1000000 in
theorem power_any (hf : Fld w f p g fs) (a : Int) (n : Nat) (hn : n ≤ 9223372036854775807) :
    Calls Tryz.prog 80 #[f, .int .i64 a, .int .i64 n] w (Rd w (.int .i64 (fpow p a n))) := by
  have C := Lib.hid hf
  have hx := fof_bd hf.two a
  obtain ⟨⟨b', v, hf', hc, -, -, -⟩, -, lo, hi⟩ := hf
  subst hf'
  go_enter Tryz.func80, Tryz.ntmps80
  go_wp2_with (go_at_call 66; refine (of_any C.out _).mono ?_; rintro e w' ⟨rfl, m, rfl⟩)
  go_loopw [1, 2, 7] (fun x1 x2 x7 wr => ∃ (A X : Int) (k m : Nat), x1 = .int .i64 A ∧ x2 = .int .i64 k ∧ x7 = .int .i64 X ∧ 0 ≤ A ∧ A < p ∧ 0 ≤ X ∧ X < p ∧ k ≤ n ∧ Hid ((X * A ^ k) % p = fpow p a n) ∧ wr = w.drewN m) (fun _ x2 _ _ => (intOf x2).toNat)
  case atStart => exact ⟨_, _, n, _, rfl, rfl, rfl, hx.1, hx.2, by omega, by omega, Nat.le_refl _, Lib.hid (by simp [fof, fpow, pow_mod]), rfl⟩
  case round =>
    obtain ⟨A, X, k, m', rfl, rfl, rfl, hA0, hA1, hX0, hX1, hkn, H, rfl⟩ := hrel
    have hmA := mul_small (show 2 ≤ p by omega) hi ⟨hA0, hA1⟩ ⟨hA0, hA1⟩
    have hmX := mul_small (show 2 ≤ p by omega) hi ⟨hX0, hX1⟩ ⟨hA0, hA1⟩
    have bA := mod_bd (show 2 ≤ p by omega) (A * A)
    have bX := mod_bd (show 2 ≤ p by omega) (X * A)
    by_cases hk : 0 < k
    · have H2 := Lib.hid (pow_step H.out)
      rcases Nat.mod_two_eq_zero_or_one k with ho | ho
      · have hb : (bits BinOp.and IntKind.i64 (↑k) 1 == 1) = false := by rw [i64_and_one k (by omega), ho]; rfl
        have HO := Lib.hid ho; clear ho H
        go_wp2
        go_roundw
        case rel => exact ⟨_, _, k / 2, _, rfl, by go_num, rfl, bA.1, bA.2, hX0, hX1, by omega, Lib.hid (by have := H2.out; rw [HO.out, Int.pow_zero, Int.mul_one, Int.emod_eq_of_lt hX0 hX1] at this; exact this), rfl⟩
        case measure => simp [intOf]; omega
      · have hb : (bits BinOp.and IntKind.i64 (↑k) 1 == 1) = true := by rw [i64_and_one k (by omega), ho]; rfl
        have HO := Lib.hid ho; clear ho H
        go_wp2
        go_roundw
        case rel => exact ⟨_, _, k / 2, _, rfl, by go_num, rfl, bA.1, bA.2, bX.1, bX.2, by omega, Lib.hid (by have := H2.out; rw [HO.out, Int.pow_succ, Int.pow_zero, Int.one_mul] at this; exact this), rfl⟩
        case measure => simp [intOf]; omega
    · obtain rfl : k = 0 := by omega
      go_wp2
      go_ret
      exact .more _ (ret_int (by have := H.out; rw [Int.pow_zero, Int.mul_one, Int.emod_eq_of_lt hX0 hX1] at this; exact this))
end
end Go.Proofs.YtfepefbehgbjpaaGreatDoor
/-! Whether a number is a prime; the primes that divide one: contracts. -/
namespace Go.Proofs.YtfepefbehgbjpaaGreatDoor
open Go.RowKit Go.Att

theorem slInts : SlT Tryz.prog 22 3 1 8 (.int .i64 0) := SlT.mk' Tryz.underlying22 (by kernel_rfl) (by decide)

def okP (p : Int) : Prop := Pr p ∧ 3 ≤ p ∧ p ≤ 2147483647
noncomputable def okB (p : Int) : Bool := @decide (okP p) (Classical.propDecidable _)
theorem okB_true {p : Int} (h : okP p) : okB p = true := @decide_eq_true _ (Classical.propDecidable _) h
theorem okB_false {p : Int} (h : ¬ okP p) : okB p = false := @decide_eq_false _ (Classical.propDecidable _) h

theorem sq_le {k p : Int} (h0 : 0 ≤ k) (h : k * k ≤ p) (hp : p ≤ 2147483647) : k ≤ 46340 := by
  rcases Int.lt_or_le 46340 k with h1 | h1
  · have : 46341 * 46341 ≤ k * k := Int.mul_le_mul (by omega) (by omega) (by omega) h0
    omega
  · exact h1
theorem sq_bd {k : Int} (h0 : 0 ≤ k) (h : k ≤ 46341) : 0 ≤ k * k ∧ k * k ≤ 2147488281 := by
  have h1 : k * k ≤ 46341 * 46341 := Int.mul_le_mul h h h0 (by omega)
  exact ⟨Int.mul_nonneg h0 h0, by omega⟩
theorem prime_end {p k : Int} (hp : 2 ≤ p) (hk : p < k * k) (hk0 : 2 ≤ k) (h : ∀ d : Int, 2 ≤ d → d < k → ¬ d ∣ p) : Pr p := by
  refine ⟨hp, fun d h2 hd => h d h2 ?_⟩
  rcases Int.lt_or_le d k with h1 | h1
  · exact h1
  · have : k * k ≤ d * d := Int.mul_le_mul h1 h1 (by omega) (by omega)
    omega
theorem not_div_step {p k : Int} (h : ∀ d : Int, 2 ≤ d → d < k → ¬ d ∣ p) (hk : ¬ k ∣ p) : ∀ d : Int, 2 ≤ d → d < k + 1 → ¬ d ∣ p := by
  intro d h2 hd
  rcases Int.lt_or_eq_of_le (show d ≤ k by omega) with h1 | rfl
  · exact h d h2 h1
  · exact hk

set_option maxHeartbeats 1000000 in
theorem rprime_any (p : Int) (w : World) :
    Calls Tryz.prog 115 #[.int .i64 p] w fun e w' => e = .returned (.bool (okB p)) ∧ w = w' := by
  by_cases h3 : p < 3
  · have HB := Lib.hid <| okB_false (fun h : okP p => by have := h.2.1; omega)
    go_enter Tryz.func115, Tryz.ntmps115
    go_wp2
    go_ret; exact ⟨ret_bool HB.out.symm, rfl⟩
  · by_cases h4 : 2147483647 < p
    · have HB := Lib.hid <| okB_false (fun h : okP p => by have := h.2.2; omega)
      go_enter Tryz.func115, Tryz.ntmps115
      go_wp2
      go_ret; exact ⟨ret_bool HB.out.symm, rfl⟩
    · go_enter Tryz.func115, Tryz.ntmps115
      go_wp2
      go_loop [3] (fun x => ∃ k : Int, x = .int .i64 k ∧ 2 ≤ k ∧ k ≤ 46341 ∧ Hid (∀ d : Int, 2 ≤ d → d < k → ¬ d ∣ p)) (fun x => (46341 - intOf x).toNat)
      case atStart => exact ⟨2, rfl, by omega, by omega, Lib.hid (fun d h1 h2 => by omega)⟩
      case round =>
        obtain ⟨k, rfl, hk2, hk3, H⟩ := hrel
        have hs := sq_bd (show 0 ≤ k by omega) hk3
        by_cases hle : k * k ≤ p
        · have hk4 := sq_le (show 0 ≤ k by omega) hle (by omega)
          by_cases hd : k ∣ p
          · have HB := Lib.hid <| okB_false (fun h : okP p => h.1.no k hk2 hle hd)
            have hm : (p % k == 0) = true := by rw [beq_iff_eq]; exact Int.emod_eq_zero_of_dvd hd
            go_wp2
            go_ret; exact ⟨ret_bool HB.out.symm, rfl⟩
          · have hm : (p % k == 0) = false := by rw [beq_eq_false_iff_ne]; exact fun h => hd (Int.dvd_of_emod_eq_zero h)
            have H' := Lib.hid (not_div_step H.out hd)
            clear hd
            go_wp2
            go_round
            case rel => exact ⟨k + 1, rfl, by omega, by omega, H'⟩
            case measure => simp [intOf]; omega
        · have HB := Lib.hid <| okB_true (show okP p from ⟨prime_end (by omega) (by omega) hk2 H.out, by omega, by omega⟩)
          go_wp2
          go_ret; exact ⟨ret_bool HB.out.symm, rfl⟩

set_option maxHeartbeats 1000000 in
theorem prime_any (p : Int) (w : World) (h3 : 3 ≤ p) (h4 : p ≤ 2147483647) :
    Calls Tryz.prog 147 #[.int .i64 p] w fun e w' => e = .returned (.bool (okB p)) ∧ w = w' := by
  go_enter Tryz.func147, Tryz.ntmps147
  go_wp2
  go_loop [3] (fun x => ∃ k : Int, x = .int .i64 k ∧ 2 ≤ k ∧ k ≤ 46341 ∧ Hid (∀ d : Int, 2 ≤ d → d < k → ¬ d ∣ p)) (fun x => (46341 - intOf x).toNat)
  case atStart => exact ⟨2, rfl, by omega, by omega, Lib.hid (fun d h1 h2 => by omega)⟩
  case round =>
    obtain ⟨k, rfl, hk2, hk3, H⟩ := hrel
    have hs := sq_bd (show 0 ≤ k by omega) hk3
    by_cases hle : k * k ≤ p
    · have hk4 := sq_le (show 0 ≤ k by omega) hle (by omega)
      by_cases hd : k ∣ p
      · have HB := Lib.hid <| okB_false (fun h : okP p => h.1.no k hk2 hle hd)
        have hm : (p % k == 0) = true := by rw [beq_iff_eq]; exact Int.emod_eq_zero_of_dvd hd
        go_wp2
        go_ret; exact ⟨ret_bool HB.out.symm, rfl⟩
      · have hm : (p % k == 0) = false := by rw [beq_eq_false_iff_ne]; exact fun h => hd (Int.dvd_of_emod_eq_zero h)
        have H' := Lib.hid (not_div_step H.out hd)
        clear hd
        go_wp2
        go_round
        case rel => exact ⟨k + 1, rfl, by omega, by omega, H'⟩
        case measure => simp [intOf]; omega
    · have HB := Lib.hid <| okB_true (show okP p from ⟨prime_end (by omega) (by omega) hk2 H.out, by omega, by omega⟩)
      go_wp2
      go_ret; exact ⟨ret_bool (by rw [HB.out]; simp; omega), rfl⟩
end Go.Proofs.YtfepefbehgbjpaaGreatDoor
end
section
/-! Circuits: gates as triples, layers as slices of slices of them; how wide a layer is. -/
namespace Go.Att
open Go.RowKit
abbrev Tri := Int × Int × Int
def flatT (l : List Tri) : List Value := l.flatMap fun c => [.int .i64 c.1, .int .i64 c.2.1, .int .i64 c.2.2]
theorem flatT_get (l : List Tri) (i : Nat) (h : i < l.length) : (flatT l)[i * 3]? = some (.int .i64 l[i].1) ∧ (flatT l)[i * 3 + 1]? = some (.int .i64 l[i].2.1) ∧ (flatT l)[i * 3 + 2]? = some (.int .i64 l[i].2.2) := by
  induction l generalizing i with
  | nil => simp at h
  | cons c l ih =>
    cases i with
    | zero => simp [flatT]
    | succ i =>
      have := ih i (by simpa using h)
      have e : (i + 1) * 3 = i * 3 + 3 := by omega
      simp only [flatT, List.flatMap_cons, List.cons_append, List.nil_append, e] at *
      exact this
def nthT (l : List Tri) (i : Nat) : Tri := l.getD i (0, 0, 0)
theorem nthT_eq {l : List Tri} {i : Nat} (h : i < l.length) : nthT l i = l[i] := by simp [nthT, h]
def Trs (w : World) (v : Value) (l : List Tri) : Prop := Sl w 3 v l.length (flatT l)
section
variable {P : Program} {w w' : World} {v : Value} {l : List Tri}
theorem Trs.ext (h : Trs w v l) (hx : Ext w w') : Trs w' v l := Sl.ext h hx
theorem Trs.len (h : Trs w v l) : l.length ≤ 9223372036854775807 := by have := Sl.len h; unfold maxLen at this; omega
theorem Trs.run_len (h : Trs w v l) {t e bytes : Nat} {z : Value} (ht : SlT P t e 3 bytes z) (ty : TypeId) (w' : World) :
    (Builtin.len_ #[t] ty #[v]).run P w' = .ok (.int .i64 l.length) w' := Sl.run_len h ht ty w'
theorem Trs.run_index (h : Trs w v l) {t e bytes : Nat} {z : Value} (ht : SlT P t e 3 bytes z) (i : Nat) (hi : i < l.length) (w' : World) :
    (Instr.indexAt t v (.int .i64 i)).run P w' = .ok (.pointer (some (elt v i 3))) w' := Sl.run_index h ht i (by omega) (by omega) w'
theorem Trs.c0 (h : Trs w v l) (i : Nat) (hi : i < l.length) : w.cell? (elt v i 3) = some (.int .i64 (nthT l i).1) := by
  have := Sl.cell h i 0 hi (by omega)
  simp only [Addr.add, if_true, Nat.add_zero] at this
  rw [this, (flatT_get l i hi).1, nthT_eq hi]
theorem Trs.c1 (h : Trs w v l) (i : Nat) (hi : i < l.length) : w.cell? ⟨(elt v i 3).block, (elt v i 3).off + 1, none⟩ = some (.int .i64 (nthT l i).2.1) := by
  have := Sl.cell h i 1 hi (by omega)
  simp only [Addr.add] at this
  rw [if_neg (by omega)] at this
  rw [this, (flatT_get l i hi).2.1, nthT_eq hi]
theorem Trs.c2 (h : Trs w v l) (i : Nat) (hi : i < l.length) : w.cell? ⟨(elt v i 3).block, (elt v i 3).off + 2, none⟩ = some (.int .i64 (nthT l i).2.2) := by
  have := Sl.cell h i 2 hi (by omega)
  simp only [Addr.add] at this
  rw [if_neg (by omega)] at this
  rw [this, (flatT_get l i hi).2.2, nthT_eq hi]
theorem Trs.shape (h : Trs w v l) : ∃ ao cap, v = .slice ao l.length cap := by
  obtain ⟨ao, cap, h1, _⟩ := h; exact ⟨ao, cap, h1⟩
end
def nthY (l : List (List Tri)) (i : Nat) : List Tri := l.getD i []
structure LysAt (w : World) (v : Value) (l : List (List Tri)) (R : Nat → Value) : Prop where
  sl : Sl w 1 v l.length ((List.range l.length).map R)
  row : ∀ i, i < l.length → Trs w (R i) (nthY l i)
section
variable {P : Program} {w w' : World} {v : Value} {l : List (List Tri)} {R : Nat → Value}
theorem LysAt.ext (h : LysAt w v l R) (hx : Ext w w') : LysAt w' v l R := ⟨h.sl.ext hx, fun i hi => (h.row i hi).ext hx⟩
theorem LysAt.run_len (h : LysAt w v l R) {t e bytes : Nat} {z : Value} (ht : SlT P t e 1 bytes z) (ty : TypeId) (w' : World) : (Builtin.len_ #[t] ty #[v]).run P w' = .ok (.int .i64 l.length) w' := Sl.run_len h.sl ht ty w'
theorem LysAt.run_index (h : LysAt w v l R) {t e bytes : Nat} {z : Value} (ht : SlT P t e 1 bytes z) (i : Nat) (hi : i < l.length) (w' : World) :
    (Instr.indexAt t v (.int .i64 i)).run P w' = .ok (.pointer (some (elt v i 1))) w' := Sl.run_index h.sl ht i (by omega) (by omega) w'
theorem LysAt.cell (h : LysAt w v l R) (i : Nat) (hi : i < l.length) : w.cell? (elt v i 1) = some (R i) := by
  have := Sl.cell h.sl i 0 hi (by omega)
  simp [Addr.add] at this
  rw [this]; simp [hi]
theorem LysAt.len (h : LysAt w v l R) : l.length ≤ 9223372036854775807 := by have := Sl.len h.sl; unfold maxLen at this; omega
theorem LysAt.shape (h : LysAt w v l R) : ∃ ao cap, v = .slice ao l.length cap := by
  obtain ⟨ao, cap, h1, _⟩ := h.sl; exact ⟨ao, cap, h1⟩
end

/-! How many times 2 a number is. -/
end Go.Att
namespace Go.Proofs.YtfepefbehgbjpaaGreatDoor
open Go.RowKit Go.Att
end Go.Proofs.YtfepefbehgbjpaaGreatDoor
/-! What is wrong with a circuit, the document's side: contracts. -/
namespace Go.Att
open Go.RowKit
def below (wd : Int) (Ls : List (List Tri)) (i : Nat) : Int := if i = 0 then 2 ^ wd.toNat else (nthY Ls (i - 1)).length
end Go.Att
namespace Go.Proofs.YtfepefbehgbjpaaGreatDoor
open Go.RowKit Go.Att

end Go.Proofs.YtfepefbehgbjpaaGreatDoor
end
section
/-! What a table is at a point, the document's side: contracts. -/
namespace Go.Att
open Go.RowKit
theorem wD_step1 (p : Int) (l : List Int) (i m j : Nat) (h : j + m + 1 = l.length) (hb : i / 2 ^ m % 2 = 1) : fmul p (wD l i m % p) (fof p (nth l j)) = wD l i (m + 1) % p := by
  have e : l.length - 1 - m = j := by omega
  have d : dig l.length i j = 1 := by unfold dig; rw [show l.length - 1 - j = m by omega]; exact hb
  simp only [wD, e, wf, d, if_true, fmul, fof, em_l, em_r]
theorem wD_step0 (p : Int) (l : List Int) (i m j : Nat) (h : j + m + 1 = l.length) (hb : i / 2 ^ m % 2 = 0) : fmul p (wD l i m % p) (fsub p 1 (fof p (nth l j))) = wD l i (m + 1) % p := by
  have e : l.length - 1 - m = j := by omega
  have d : dig l.length i j ≠ 1 := by unfold dig; rw [show l.length - 1 - j = m by omega]; omega
  simp only [wD, e, wf, if_neg d, fmul, fsub, fof, es_r, em_l, em_r]
theorem exS_step (p : Int) (t l : List Int) (i : Nat) : (exS t l i % p + fmul p (nth t i) (wgt l i % p)) % p = exS t l (i + 1) % p := by
  simp only [exS, fmul, ea_l, ea_r, em_r]
theorem unit_cells (n i : Nat) (hi : i < n) : (madeCells (Value.cells (.int .i64 0)) (n * 1)).toList.take (i * 1) ++ (Value.cells (.int .i64 1)).toList ++ (madeCells (Value.cells (.int .i64 0)) (n * 1)).toList.drop (i * 1 + 1) = (unitT n i).map (Value.int .i64) := by
  have e : (madeCells (Value.cells (.int .i64 0)) (n * 1)).toList = List.replicate n (Value.int .i64 0) := by
    simp [madeCells, Value.cells, Nat.mod_one, List.map_const']
  rw [e]
  apply List.ext_getElem?
  intro j
  simp only [unitT, List.map_set, List.map_replicate, Nat.mul_one, Value.cells]
  rw [List.getElem?_set]
  by_cases h1 : j < i
  · rw [List.append_assoc, List.getElem?_append_left (by simp; omega), List.getElem?_take, if_pos h1]
    simp [show ¬ i = j by omega]
  · by_cases h2 : j = i
    · subst h2
      rw [List.append_assoc, List.getElem?_append_right (by simp; omega)]
      simp [hi, show min j n = j by omega]
    · rw [List.getElem?_append_right (by simp; omega)]
      simp only [List.length_append, List.length_take, List.length_replicate, List.getElem?_drop]
      rw [if_neg (show ¬ i = j by omega)]
      congr 1
      simp; omega
end Go.Att
namespace Go.Proofs.YtfepefbehgbjpaaGreatDoor
open Go.RowKit Go.Att

set_option maxRecDepth 100000 in
set_option maxHeartbeats 1000000 in
theorem rweight_any (p : Int) (v : Value) (l : List Int) (i : Nat) (w : World) (hp : 2 ≤ p) (hp2 : p ≤ 2147483647) (hv : Ints w v l) (hl : l.length ≤ 60) (hi : i ≤ 9223372036854775807) :
    Calls Tryz.prog 168 #[.int .i64 p, .int .i64 l.length, .int .i64 i, v] w fun e w' => e = .returned (.int .i64 (wgt l i % p)) ∧ w = w' := by
  have HV := Lib.hid hv; clear hv
  have h1p : (1 : Int) % p = 1 := Int.emod_eq_of_lt (by omega) (by omega)
  go_enter Tryz.func168, Tryz.ntmps168
  go_wp2_with fail
  go_loop [9, 10, 11, 12] (fun x9 x10 x11 _ => ∃ (m : Nat) (j : Int), m ≤ l.length ∧ j + m + 1 = l.length ∧ x11 = .int .i64 j ∧ x10 = .int .i64 ((2 : Int) ^ m) ∧ x9 = .int .i64 (wD l i m % p)) (fun _ _ x11 _ => (intOf x11 + 1).toNat)
  case atStart => exact ⟨0, (l.length : Int) - 1, by omega, by omega, rfl, rfl, by rw [wD, h1p]⟩
  case round =>
    obtain ⟨m, j, hm, hj, rfl, rfl, rfl⟩ := hrel
    by_cases hj0 : 0 ≤ j
    · obtain ⟨q, rfl⟩ := Int.eq_ofNat_of_zero_le hj0
      have hq : q < l.length := by omega
      have hix := HV.out.run_index (P := Tryz.prog) slInts q hq
      have hcell := HV.out.cell q hq
      have hpw : (2 : Int) ^ (m + 1) = 2 ^ m * 2 := Int.pow_succ _ _
      have hpc : ((2 ^ m : Nat) : Int) = (2 : Int) ^ m := by simp
      have hpb : (2 : Nat) ^ m ≤ 2 ^ 60 := Nat.pow_le_pow_right (by decide) (by omega)
      have hp1 : 1 ≤ (2 : Nat) ^ m := Nat.one_le_two_pow
      have hdv : ((i : Int) / ((2 ^ m : Nat) : Int)) % 2 = ((i / 2 ^ m % 2 : Nat) : Int) := by simp
      have hB : (1 : Int) ≤ (2 : Int) ^ m ∧ (2 : Int) ^ m ≤ 1152921504606846976 := by omega
      rw [hpc] at hdv
      have HPW := Lib.hid hpw; clear hpw hpc hpb hp1
      rcases Nat.mod_two_eq_zero_or_one (i / 2 ^ m) with hb | hb
      · have S := Lib.hid (wD_step0 p l i m q (by omega) hb)
        rw [hb] at hdv
        have hbb : ((i : Int) / (2 : Int) ^ m % 2 == 0) = true := by rw [beq_iff_eq]; exact hdv
        clear hb hdv
        generalize hN : (2 : Int) ^ m = N at hB hbb
        have HN := Lib.hid hN; clear hN
        have hd0 : 0 ≤ (i : Int) / N := Int.ediv_nonneg (by omega) (by omega)
        have hd1 : (i : Int) / N ≤ i := Int.ediv_le_self _ (by omega)
        go_wp2_with (first | (go_at_call 40; refine (rof_any _ _ _ hp hp2).mono ?_; rintro e w' ⟨rfl, rfl⟩) | (go_at_call 179; refine (rsub_any _ _ _ _ hp hp2).mono ?_; rintro e w' ⟨rfl, rfl⟩) | (go_at_call 102; refine (rmul_any _ _ _ _ hp hp2).mono ?_; rw [S.out]; rintro e w' ⟨rfl, rfl⟩))
        go_round
        case rel => exact ⟨m + 1, (q : Int) - 1, by omega, by omega, rfl, by rw [HPW.out, HN.out], rfl⟩
        case measure => simp [intOf]
      · have S := Lib.hid (wD_step1 p l i m q (by omega) hb)
        rw [hb] at hdv
        have hbb : ((i : Int) / (2 : Int) ^ m % 2 == 0) = false := by rw [beq_eq_false_iff_ne]; omega
        clear hb hdv
        generalize hN : (2 : Int) ^ m = N at hB hbb
        have HN := Lib.hid hN; clear hN
        have hd0 : 0 ≤ (i : Int) / N := Int.ediv_nonneg (by omega) (by omega)
        have hd1 : (i : Int) / N ≤ i := Int.ediv_le_self _ (by omega)
        go_wp2_with (first | (go_at_call 40; refine (rof_any _ _ _ hp hp2).mono ?_; rintro e w' ⟨rfl, rfl⟩) | (go_at_call 102; refine (rmul_any _ _ _ _ hp hp2).mono ?_; rw [S.out]; rintro e w' ⟨rfl, rfl⟩))
        go_round
        case rel => exact ⟨m + 1, (q : Int) - 1, by omega, by omega, rfl, by rw [HPW.out, HN.out], rfl⟩
        case measure => simp [intOf]
    · obtain rfl : m = l.length := by omega
      go_wp2_with fail
      go_ret
      exact ⟨ret_int (by rw [wD_all]), rfl⟩

set_option maxRecDepth 100000 in
set_option maxHeartbeats 1000000 in
theorem rextend_any (p : Int) (vt v : Value) (t l : List Int) (w : World) (hp : 2 ≤ p) (hp2 : p ≤ 2147483647) (ht : Ints w vt t) (hv : Ints w v l) (hl : l.length ≤ 60) :
    Calls Tryz.prog 141 #[.int .i64 p, vt, v] w fun e w' => e = .returned (.int .i64 (ext t l % p)) ∧ w = w' := by
  have hlt := ht.run_len (P := Tryz.prog) slInts
  have hlv := hv.run_len (P := Tryz.prog) slInts
  have hlen := ht.len
  have HT := Lib.hid ht; have HV := Lib.hid hv; clear ht hv
  go_enter Tryz.func141, Tryz.ntmps141
  go_wp2_with fail
  go_loop [7, 8, 9, 10] (fun x7 x8 _ _ => ∃ i : Nat, i ≤ t.length ∧ x8 = .int .i64 i ∧ x7 = .int .i64 (exS t l i % p)) (fun _ x8 _ _ => t.length - (intOf x8).toNat)
  case atStart => exact ⟨0, Nat.zero_le _, rfl, by simp [exS]⟩
  case round =>
    obtain ⟨i, hi, rfl, rfl⟩ := hrel
    by_cases hit : i < t.length
    · have hix := HT.out.run_index (P := Tryz.prog) slInts i hit
      have hcell := HT.out.cell i hit
      have S := Lib.hid (exS_step p t l i)
      have b1 := mod_bd hp (exS t l i)
      have b2 := fmul_bd hp (nth t i) (wgt l i % p)
      go_wp2_with (first | (go_at_call 168; refine (rweight_any p _ l i _ hp hp2 HV.out hl (by omega)).mono ?_; rintro e w' ⟨rfl, rfl⟩) | (go_at_call 102; refine (rmul_any _ _ _ _ hp hp2).mono ?_; rintro e w' ⟨rfl, rfl⟩))
      go_round
      case rel => exact ⟨i + 1, by omega, by go_num, by rw [S.out]⟩
      case measure => simp [intOf]; omega
    · obtain rfl : i = t.length := by omega
      go_wp2_with fail
      go_ret
      exact ⟨rfl, rfl⟩
end Go.Proofs.YtfepefbehgbjpaaGreatDoor
/-! What a table that is 1 at a place is at a point, both sides: contracts. -/
namespace Go.Att
theorem wU_step1 (p : Int) (l : List Int) (i k : Nat) (h : i / 2 ^ (l.length - 1 - k) % 2 = 1) : fmul p (wU l i k % p) (nth l k) = wU l i (k + 1) % p := by
  have d : dig l.length i k = 1 := h
  simp only [wU, wf, d, if_true, fmul, em_l]
theorem wU_step0 (p : Int) (l : List Int) (i k : Nat) (h : i / 2 ^ (l.length - 1 - k) % 2 = 0) : fmul p (wU l i k % p) (fsub p 1 (nth l k)) = wU l i (k + 1) % p := by
  have d : dig l.length i k ≠ 1 := by unfold dig; omega
  simp only [wU, wf, if_neg d, fmul, fsub, em_l, em_r]
end Go.Att
namespace Go.Proofs.YtfepefbehgbjpaaGreatDoor
open Go.RowKit Go.Att

set_option maxHeartbeats 1000000 in
theorem rtwo_any (n : Nat) (w : World) (hn : n ≤ 60) : Calls Tryz.prog 41 #[.int .i64 n] w fun e w' => e = .returned (.int .i64 ((2 : Int) ^ n)) ∧ w = w' := by
  go_enter Tryz.func41, Tryz.ntmps41
  go_wp2
  go_loop [3, 4] (fun x3 x4 => ∃ k : Nat, k ≤ n ∧ x4 = .int .i64 k ∧ x3 = .int .i64 ((2 : Int) ^ k)) (fun _ x4 => n - (intOf x4).toNat)
  case atStart => exact ⟨0, Nat.zero_le _, rfl, rfl⟩
  case round =>
    obtain ⟨k, hk, rfl, rfl⟩ := hrel
    by_cases hkn : k < n
    · have hpw : (2 : Int) ^ (k + 1) = 2 ^ k * 2 := Int.pow_succ _ _
      have hpc : ((2 ^ k : Nat) : Int) = (2 : Int) ^ k := by simp
      have hpb : (2 : Nat) ^ k ≤ 2 ^ 60 := Nat.pow_le_pow_right (by decide) (by omega)
      have hp1 : 1 ≤ (2 : Nat) ^ k := Nat.one_le_two_pow
      have hB : (1 : Int) ≤ (2 : Int) ^ k ∧ (2 : Int) ^ k ≤ 1152921504606846976 := by omega
      have HPW := Lib.hid hpw; clear hpw hpc hpb hp1
      generalize hN : (2 : Int) ^ k = N at hB
      have HN := Lib.hid hN; clear hN
      go_wp2
      go_round
      case rel => exact ⟨k + 1, by omega, by go_num, by rw [HPW.out, HN.out]⟩
      case measure => simp [intOf]; omega
    · obtain rfl : k = n := by omega
      go_wp2
      go_ret
      exact ⟨rfl, rfl⟩

set_option maxRecDepth 100000 in
set_option maxHeartbeats 1000000 in
theorem runit_any (p : Int) (v : Value) (l : List Int) (i : Nat) (w : World) (hp : 2 ≤ p) (hp2 : p ≤ 2147483647) (hv : Ints w v l) (hl : l.length ≤ 30) (hi : i < 2 ^ l.length) :
    Calls Tryz.prog 104 #[.int .i64 p, .int .i64 i, v] w fun e w' => e = .returned (.int .i64 (wgt l i % p)) ∧ Ext w w' := by
  have hlv := hv.run_len (P := Tryz.prog) slInts
  have HV := Lib.hid hv; clear hv
  have hpc : (2 : Int) ^ l.length = ((2 ^ l.length : Nat) : Int) := by simp
  have hpb : (2 : Nat) ^ l.length ≤ 2 ^ 30 := Nat.pow_le_pow_right (by decide) hl
  have EU := Lib.hid (ext_unit (2 ^ l.length) i l hi)
  have hpd : 2 ^ l.length ≤ 4294967296 := by omega
  generalize (2 : Nat) ^ l.length = N at *
  have HPC := Lib.hid hpc; clear hpc
  go_enter Tryz.func104, Tryz.ntmps104
  go_wp2_with (first | (go_at_call 41; refine (rtwo_any _ _ (by omega)).mono ?_; rw [HPC.out]; rintro e w' ⟨rfl, rfl⟩) | (refine wpList_mkn rfl _ _ 22 rfl slInts (Ext.refl w) rfl rfl (by omega) (by omega) (by omega) ?_; intro v1 w1 HO HX _; rw [Int.toNat_natCast] at HO; have hix := (Sl.of_own HO (by omega)).run_index (P := Tryz.prog) slInts i (by omega) (by omega); rw [Int.toNat_natCast] at hix) | (refine wpList_set rfl rfl _ _ 3 rfl slInts HO i hi rfl (.int .i64 1) rfl rfl (by intro u hu; simp [Value.cells] at hu; subst hu; rfl) ?_; intro w2 HO2 HG2; rw [unit_cells _ _ hi] at HO2; replace HX := Ext.own_grown HX HO HG2; clear HG2 hix) | (go_at_call 141; refine (rextend_any p _ _ (unitT N i) l _ hp hp2 (Ints.of_own HO2) (HV.out.ext HX) (by omega)).mono ?_; rw [EU.out]; rintro e w' ⟨rfl, rfl⟩))
  go_ret
  exact ⟨rfl, HX⟩

section
variable {w : World} {f : Value} {p g : Int} {fs : List Int}
set_option maxRecDepth 100000 in
set_option maxHeartbeats 1000000 in
theorem unit_any (hf : Fld w f p g fs) (v : Value) (l : List Int) (i : Nat) (hv : Ints w v l) (hl : l.length ≤ 30) (hi : i ≤ 9223372036854775807) :
    Calls Tryz.prog 34 #[f, .int .i64 i, v] w (Rd w (.int .i64 (wgt l i % p))) := by
  have hlv := hv.run_len (P := Tryz.prog) slInts
  have lo := hf.lo
  have h1p : (1 : Int) % p = 1 := Int.emod_eq_of_lt (by omega) (by omega)
  have HV := Lib.hid hv; have C := Lib.hid hf; clear hv hf
  go_enter Tryz.func34, Tryz.ntmps34
  go_wp2_with fail
  go_loopw [7, 8, 9, 12] (fun x7 _ _ x12 wr => ∃ k m : Nat, k ≤ l.length ∧ x12 = .int .i64 k ∧ x7 = .int .i64 (wU l i k % p) ∧ wr = w.drewN m) (fun _ _ _ x12 _ => l.length - (intOf x12).toNat)
  case atStart => exact ⟨0, 0, Nat.zero_le _, rfl, by rw [wU, h1p], rfl⟩
  case round =>
    obtain ⟨k, m, hk, rfl, rfl, rfl⟩ := hrel
    by_cases hkl : k < l.length
    · have hix := HV.out.run_index (P := Tryz.prog) slInts k hkl
      have hcell := HV.out.cell k hkl
      have hcs : ((i : Int) / 2 ^ (l.length - 1 - k)) = ((i / 2 ^ (l.length - 1 - k) : Nat) : Int) := by simp
      have hle : i / 2 ^ (l.length - 1 - k) ≤ i := Nat.div_le_self _ _
      have hand := i64_and_one (i / 2 ^ (l.length - 1 - k)) (by omega)
      rw [← hcs] at hand
      rcases Nat.mod_two_eq_zero_or_one (i / 2 ^ (l.length - 1 - k)) with hb | hb
      · have S := Lib.hid (wU_step0 p l i k hb)
        have hbb : (bits BinOp.and IntKind.i64 ((i : Int) / 2 ^ (l.length - 1 - k)) 1 == 1) = false := by rw [hand, hb]; rfl
        clear hcs hle hand hb
        go_wp2_with (first | (go_at_call 82; refine (sub_any (C.out.drewN _) _ _).mono ?_; rintro e w' ⟨rfl, m2, rfl⟩) | (go_at_call 79; refine (mul_any (C.out.drewN _) _ _).mono ?_; rw [S.out]; rintro e w' ⟨rfl, m3, rfl⟩))
        go_roundw
        case rel => exact ⟨k + 1, _, by omega, by go_num, rfl, rfl⟩
        case measure => simp [intOf]; omega
      · have S := Lib.hid (wU_step1 p l i k hb)
        have hbb : (bits BinOp.and IntKind.i64 ((i : Int) / 2 ^ (l.length - 1 - k)) 1 == 1) = true := by rw [hand, hb]; rfl
        clear hcs hle hand hb
        go_wp2_with (go_at_call 79; refine (mul_any (C.out.drewN _) _ _).mono ?_; rw [S.out]; rintro e w' ⟨rfl, m3, rfl⟩)
        go_roundw
        case rel => exact ⟨k + 1, _, by omega, by go_num, rfl, rfl⟩
        case measure => simp [intOf]; omega
    · obtain rfl : k = l.length := by omega
      go_wp2_with fail
      go_ret
      exact .more _ rfl
end
end Go.Proofs.YtfepefbehgbjpaaGreatDoor
end
section
namespace Go.Proofs.YtfepefbehgbjpaaGreatDoor.bulks

theorem one_le {H : Type} (d : DataW H) : 1 ≤ Rows.uptoBulk d := by
  cases d with
  | lit l => cases l <;> simp [Rows.uptoBulk]
  | nil => simp [Rows.uptoBulk]
  | ptr d => simp [Rows.uptoBulk]
  | slice elems spare => simp [Rows.uptoBulk]
  | agg parts => simp [Rows.uptoBulk]
  | iface t d => simp [Rows.uptoBulk]
  | map entries => simp [Rows.uptoBulk]
  | held h => simp [Rows.uptoBulk]

theorem append {H : Type} (l r : List (DataW H)) : Rows.uptoBulkAll (l ++ r) = Rows.uptoBulkAll l + Rows.uptoBulkAll r := by
  induction l with
  | nil => simp [Rows.uptoBulkAll]
  | cons x l ih => simp only [List.cons_append, Rows.uptoBulkAll, ih]; omega

theorem length_le {H : Type} (l : List (DataW H)) : l.length ≤ Rows.uptoBulkAll l := by
  induction l with
  | nil => simp [Rows.uptoBulkAll]
  | cons x r ih => have := one_le x; simp only [Rows.uptoBulkAll, List.length_cons]; omega

theorem slice_le {H : Type} (elems spare : List (DataW H)) : elems.length + spare.length + 1 ≤ Rows.uptoBulk (.slice elems spare) := by
  have h1 := length_le elems
  have h2 := length_le spare
  simp only [Rows.uptoBulk]
  omega
theorem bound {H : Type} {l : List (DataW H)} (hk : Rows.uptoSmall H l = true) : Rows.uptoBulkAll l ≤ 1048576 := by
  simpa [Rows.uptoSmall] using hk

end Go.Proofs.YtfepefbehgbjpaaGreatDoor.bulks
end
section
/-! What the bound on the bulk gives for lists of lists. -/
namespace Go.Proofs.YtfepefbehgbjpaaGreatDoor.bulks
open Go.Att
end Go.Proofs.YtfepefbehgbjpaaGreatDoor.bulks
/-! How arguments read: circuits (a struct of a number and slices of slices of triples). -/
namespace Go.Att
open Go.RowKit Go.ChangeShapes Go.WideShapes Go.Deep
section
variable {H : Type} {enc : TypeId × Value → H} {P : Program} {w : World} {base : Nat} {spare : Nat → Bool} {held : Bool}
end
end Go.Att
namespace Go.Proofs.YtfepefbehgbjpaaGreatDoor.bulks
open Go.Att
end Go.Proofs.YtfepefbehgbjpaaGreatDoor.bulks
end
