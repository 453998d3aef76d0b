/- Code as text, the document's side: numbers, an instruction's numbers: contracts. -/
import Derived.Test.YtnkcldhjbhdejaaDoorAp
import Derived.Lib.ItoaMem
import Derived.Test.YtnkcldhjbhdejaaDoorFa
namespace Go.Att
open Go.RowKit
theorem digit_ext (u : Nat) (h : u < 10) : (ByteArray.mk #[48, 49, 50, 51, 52, 53, 54, 55, 56, 57]).extract u (u + 1) = ⟨(Lib.decDigits u).toArray⟩ := by
  rw [Lib.decDigits_one h]
  have : u = 0 ∨ u = 1 ∨ u = 2 ∨ u = 3 ∨ u = 4 ∨ u = 5 ∨ u = 6 ∨ u = 7 ∨ u = 8 ∨ u = 9 := by omega
  rcases this with rfl | rfl | rfl | rfl | rfl | rfl | rfl | rfl | rfl | rfl <;> rfl
theorem str_app (a b : List UInt8) : (ByteArray.mk a.toArray) ++ (ByteArray.mk b.toArray) = ⟨(a ++ b).toArray⟩ := by
  apply ByteArray.ext
  rw [ByteArray.data_append]
  simp
end Go.Att
namespace Go.Proofs.YtnkcldhjbhdejaaDoor
open Go.RowKit Go.Att
set_option maxRecDepth 100000 in
theorem afits_any (n : Int) (w : World) : Calls Tryd.prog 17 #[.int .i64 n] w fun e w' => e = .returned (.bool (fitsA n)) ∧ w = w' := by
  by_cases h : n ≤ 999999999999999999
  · have HF := Lib.hid (show fitsA n = decide (-999999999999999999 ≤ n) from by
      unfold fitsA; rw [Bool.eq_iff_iff]; simp; omega)
    go_enter Tryd.func17, Tryd.ntmps17
    go_wp2
    go_ret
    exact ⟨by rw [HF.out]; trivial, rfl⟩
  · have HF := Lib.hid (show fitsA n = false from by
      unfold fitsA; simp; omega)
    go_enter Tryd.func17, Tryd.ntmps17
    go_wp2
    go_ret
    exact ⟨by rw [HF.out]; trivial, rfl⟩
set_option maxRecDepth 100000 in
set_option maxHeartbeats 400000 in
theorem adigits_nat : ∀ (f u : Nat), u ≤ f → u ≤ 999999999999999999 → ∀ w : World, Calls Tryd.prog 21 #[.int .i64 u] w fun e w' => e = .returned (.string ⟨(Lib.decDigits u).toArray⟩) ∧ w = w' := by
  intro f
  induction f with
  | zero =>
    intro u hu hb w
    have HD := Lib.hid (digit_ext u (by omega))
    have hi : (u : Int) < 10 := by omega
    go_enter Tryd.func21, Tryd.ntmps21
    go_wp2_with fail
    go_ret
    exact ⟨by rw [← HD.out]; trivial, rfl⟩
  | succ f ih =>
    intro u hu hb w
    by_cases h10 : u < 10
    · have hi : (u : Int) < 10 := by omega
      have HD := Lib.hid (digit_ext u h10)
      go_enter Tryd.func21, Tryd.ntmps21
      go_wp2_with fail
      go_ret
      exact ⟨by rw [← HD.out]; trivial, rfl⟩
    · have hi : ¬ (u : Int) < 10 := by omega
      have C1 := Lib.hid (fun W => ih (u / 10) (by omega) (by omega) W)
      have C2 := Lib.hid (fun W => ih (u % 10) (by omega) (by omega) W)
      have e1 : (u : Int).tdiv 10 = ((u / 10 : Nat) : Int) := by rw [Int.tdiv_eq_ediv_of_nonneg (by omega)]; omega
      have e2 : (u : Int).tmod 10 = ((u % 10 : Nat) : Int) := by rw [Int.tmod_eq_emod_of_nonneg (by omega)]; omega
      have HD := Lib.hid (show Lib.decDigits u = Lib.decDigits (u / 10) ++ Lib.decDigits (u % 10) from by rw [Lib.decDigits_one (Nat.mod_lt _ (by decide))]; conv => lhs; rw [Lib.decDigits, dif_neg h10])
      have hqb : u / 10 ≤ 999999999999999999 := by omega
      have hrb : u % 10 ≤ 9 := by omega
      clear ih
      generalize u / 10 = q at *
      generalize u % 10 = r at *
      have hL : (Lib.decDigits q).length + (Lib.decDigits r).length ≤ 9223372036854775807 := by
        have h1 := (nDig_le18 q).2 hqb
        have h2 := (nDig_le18 r).2 (by omega)
        rw [← Lib.decDigits_length] at h1 h2
        omega
      go_enter Tryd.func21, Tryd.ntmps21
      go_wp2_with fail
      refine (C1.out _).mono ?_
      rintro e w' ⟨rfl, rfl⟩
      go_wp2_with fail
      refine (C2.out _).mono ?_
      rintro e w' ⟨rfl, rfl⟩
      go_wp2_with fail
      go_ret
      exact ⟨by rw [HD.out, ← str_app]; trivial, rfl⟩
set_option maxRecDepth 100000 in
set_option maxHeartbeats 400000 in
theorem adigits_any (n : Int) (h : fitsA n = true) (w : World) : Calls Tryd.prog 21 #[.int .i64 n] w fun e w' => e = .returned (.string ⟨(Lib.itoa n).toArray⟩) ∧ w = w' := by
  have hb := fitsA_bd h
  by_cases h0 : n < 0
  · obtain ⟨u, hu⟩ : ∃ u : Nat, n = -(u : Int) := ⟨n.natAbs, by omega⟩
    subst hu
    have hub : u ≤ 999999999999999999 := by omega
    have C := Lib.hid (adigits_nat u u (Nat.le_refl _) hub)
    have HI := Lib.hid (Lib.itoa_neg u (by omega))
    have hL : (Lib.decDigits u).length ≤ 18 := by rw [Lib.decDigits_length]; exact (nDig_le18 u).2 hub
    have hn : - -(u : Int) = u := by omega
    clear h
    go_enter Tryd.func21, Tryd.ntmps21
    go_wp2_with fail
    refine (C.out _).mono ?_
    rintro e w' ⟨rfl, rfl⟩
    go_wp2_with fail
    go_ret
    exact ⟨by rw [HI.out, show (45 :: Lib.decDigits u) = [45] ++ Lib.decDigits u from rfl, ← str_app]; trivial, rfl⟩
  · obtain ⟨u, rfl⟩ := Int.eq_ofNat_of_zero_le (show 0 ≤ n by omega)
    rw [Lib.itoa_nonneg]
    exact adigits_nat u u (Nat.le_refl _) (by omega) w
end Go.Proofs.YtnkcldhjbhdejaaDoor
