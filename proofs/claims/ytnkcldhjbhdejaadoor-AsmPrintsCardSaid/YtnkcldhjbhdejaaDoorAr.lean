/- Code as text, the program's side: numbers as text by the library: contracts. -/
import Derived.Test.YtnkcldhjbhdejaaDoorAq
import Derived.Shelf.Strconv.Itoa3
import Derived.Shelf.Strings.Prefix
namespace Go.Att
open Go.RowKit
theorem ext_grow (w : World) (n : Nat) (os : Array Obj) : Ext w (Go.Sort.grow (w.drewN n) os) := by
  have h : Below w.heap.size (w.drewN n) (Go.Sort.grow (w.drewN n) os) := by
    refine ⟨rfl, rfl, rfl, ?_, fun k hk => ?_⟩
    · simp [Go.Sort.grow]
    · have hk' : k < (w.drewN n).heap.size := hk
      simp only [Go.Sort.grow]
      rw [Array.getElem?_append_left hk']
  exact (Ext.drewN w n).trans h
/-- A numeral without its sign. -/
theorem trim_itoa (n : Int) : (Lib.trimPrefix (Lib.itoa n) [45]).length = (Lib.decDigits n.natAbs).length := by
  unfold Lib.itoa
  obtain ⟨c, l, h1, h2, h3⟩ := decDigits_head n.natAbs
  by_cases h : n < 0
  · rw [if_pos h, h1]; simp [Lib.trimPrefix, Lib.hasPrefix]
  · have e1 : n.toNat = n.natAbs := by omega
    rw [if_neg h, e1, h1]
    have hc : c ≠ 45 := fun e => by rw [e] at h2; simp at h2
    simp [Lib.trimPrefix, Lib.hasPrefix, Ne.symm hc]
end Go.Att
namespace Go.Proofs.YtnkcldhjbhdejaaDoor
open Go.RowKit Go.Att Go.Shelf
def Tryd.laysItoa_ren : Go.Shelf.Ren := ⟨fun | 171 => 12 | 243 => 26 | 246 => 31 | 283 => 39 | 284 => 40 | 285 => 41 | 286 => 42 | 129 => 48 | 317 => 47 | 318 => 49 | 319 => 50 | 320 => 51 | 337 => 52 | 338 => 53 | n => n, fun | 3 => 3 | 9 => 9 | 2 => 2 | 4 => 4 | 171 => 83 | 0 => 0 | 53 => 84 | 37 => 50 | 5 => 5 | 173 => 87 | 212 => 106 | 51 => 107 | 20 => 20 | 213 => 108 | 46 => 109 | 232 => 112 | 233 => 113 | n => n, fun | 17 => 2 | 18 => 4 | 19 => 5 | n => n⟩
theorem Tryd.laysItoa : Go.Proofs.LaysM.n171 Tryd.prog Tryd.laysItoa_ren := {
  mixed := by kernel_rfl,
  f129 := Tryd.func48.trans (congrArg some (by kernel_rfl)),
  f171 := Tryd.func12.trans (congrArg some (by kernel_rfl)),
  f243 := Tryd.func26.trans (congrArg some (by kernel_rfl)),
  f246 := Tryd.func31.trans (congrArg some (by kernel_rfl)),
  f283 := Tryd.func39.trans (congrArg some (by kernel_rfl)),
  f284 := Tryd.func40.trans (congrArg some (by kernel_rfl)),
  f285 := Tryd.func41.trans (congrArg some (by kernel_rfl)),
  f286 := Tryd.func42.trans (congrArg some (by kernel_rfl)),
  f317 := Tryd.func47.trans (congrArg some (by kernel_rfl)),
  f318 := Tryd.func49.trans (congrArg some (by kernel_rfl)),
  f319 := Tryd.func50.trans (congrArg some (by kernel_rfl)),
  f320 := Tryd.func51.trans (congrArg some (by kernel_rfl)),
  f337 := Tryd.func52.trans (congrArg some (by kernel_rfl)),
  f338 := Tryd.func53.trans (congrArg some (by kernel_rfl)),
  t0 := Tryd.underlying0,
  a0 := Tryd.isAgg0,
  z0 := Tryd.sizeOf0,
  v0 := Tryd.zeroValue0,
  t2 := Tryd.underlying2,
  a2 := Tryd.isAgg2,
  z2 := Tryd.sizeOf2,
  v2 := Tryd.zeroValue2,
  t3 := Tryd.underlying3,
  a3 := Tryd.isAgg3,
  z3 := Tryd.sizeOf3,
  v3 := Tryd.zeroValue3,
  t4 := Tryd.underlying4,
  a4 := Tryd.isAgg4,
  z4 := Tryd.sizeOf4,
  v4 := Tryd.zeroValue4,
  t5 := Tryd.underlying5,
  a5 := Tryd.isAgg5,
  z5 := Tryd.sizeOf5,
  v5 := Tryd.zeroValue5,
  t9 := Tryd.underlying9,
  a9 := Tryd.isAgg9,
  z9 := Tryd.sizeOf9,
  v9 := Tryd.zeroValue9,
  t20 := Tryd.underlying20,
  a20 := Tryd.isAgg20,
  z20 := Tryd.sizeOf20,
  v20 := Tryd.zeroValue20,
  t37 := Tryd.underlying50,
  a37 := Tryd.isAgg50,
  z37 := Tryd.sizeOf50,
  v37 := Tryd.zeroValue50,
  t46 := Tryd.underlying109,
  a46 := Tryd.isAgg109,
  z46 := Tryd.sizeOf109,
  v46 := Tryd.zeroValue109,
  t51 := Tryd.underlying107,
  a51 := Tryd.isAgg107,
  z51 := Tryd.sizeOf107,
  v51 := Tryd.zeroValue107,
  t53 := Tryd.underlying84,
  a53 := Tryd.isAgg84,
  z53 := Tryd.sizeOf84,
  v53 := Tryd.zeroValue84,
  t171 := Tryd.underlying83,
  a171 := Tryd.isAgg83,
  z171 := Tryd.sizeOf83,
  v171 := Tryd.zeroValue83,
  t173 := Tryd.underlying87,
  a173 := Tryd.isAgg87,
  z173 := Tryd.sizeOf87,
  v173 := Tryd.zeroValue87,
  t212 := Tryd.underlying106,
  a212 := Tryd.isAgg106,
  z212 := Tryd.sizeOf106,
  v212 := Tryd.zeroValue106,
  t213 := Tryd.underlying108,
  a213 := Tryd.isAgg108,
  z213 := Tryd.sizeOf108,
  t232 := Tryd.underlying112,
  a232 := Tryd.isAgg112,
  z232 := Tryd.sizeOf112,
  v232 := Tryd.zeroValue112,
  t233 := Tryd.underlying113,
  a233 := Tryd.isAgg113,
  z233 := Tryd.sizeOf113,
  v233 := Tryd.zeroValue113,
  g17 := by kernel_rfl,
  g18 := by kernel_rfl,
  g19 := by kernel_rfl,
  i0 := by kernel_rfl,
  i2 := by kernel_rfl,
  i3 := by kernel_rfl,
  i4 := by kernel_rfl,
  i5 := by kernel_rfl,
  i9 := by kernel_rfl,
  i20 := by kernel_rfl,
  i37 := by kernel_rfl,
  i46 := by kernel_rfl,
  i51 := by kernel_rfl,
  i53 := by kernel_rfl,
  i171 := by kernel_rfl,
  i173 := by kernel_rfl,
  i212 := by kernel_rfl,
  i232 := by kernel_rfl,
  i233 := by kernel_rfl,
  m17 := by kernel_rfl,
  m18 := by kernel_rfl,
  m19 := by kernel_rfl }
def Tryd.laysTrim_ren : Go.Shelf.Ren := ⟨fun | 101 => 24 | 208 => 30 | 206 => 38 | n => n, fun | 9 => 9 | 4 => 4 | 3 => 3 | n => n, fun | n => n⟩
theorem Tryd.laysTrim : Go.Proofs.Lays.n101 Tryd.prog Tryd.laysTrim_ren := {
  mixed := by kernel_rfl,
  f101 := Tryd.func24.trans (congrArg some (by kernel_rfl)),
  f206 := Tryd.func38.trans (congrArg some (by kernel_rfl)),
  f208 := Tryd.func30.trans (congrArg some (by kernel_rfl)),
  t3 := Tryd.underlying3,
  a3 := Tryd.isAgg3,
  z3 := Tryd.sizeOf3,
  v3 := Tryd.zeroValue3,
  t4 := Tryd.underlying4,
  a4 := Tryd.isAgg4,
  z4 := Tryd.sizeOf4,
  v4 := Tryd.zeroValue4,
  t9 := Tryd.underlying9,
  a9 := Tryd.isAgg9,
  z9 := Tryd.sizeOf9,
  v9 := Tryd.zeroValue9 }
/-- The table of the powers of 10 stands. -/
abbrev Tab10 (w : World) : Prop := Lib.TabIs Tryd.prog w "internal/strconv.uint64pow10" .u64 Lib.pow10Tab
theorem pitoa_any (n : Int) (h0 : -9223372036854775808 ≤ n) (h1 : n ≤ 9223372036854775807) (w : World) (ht : Tab10 w) :
    Calls Tryd.prog 12 #[.int .i64 n] w fun e w' => e = .returned (.string ⟨(Lib.itoa n).toArray⟩) ∧ Ext w w' := by
  refine (Any.strconv_Itoa Tryd.laysItoa n h0 h1 w ht).mono ?_
  rintro e w' ⟨he, k, os, rfl⟩
  exact ⟨he, ext_grow w k os⟩
theorem ptrim_any (s : ByteArray) (w : World) : Calls Tryd.prog 24 #[.string s, .string ⟨#[45]⟩] w fun e w' => e = .returned (.string ⟨(Lib.trimPrefix s.data.toList [45]).toArray⟩) ∧ w = w' := by
  refine (Any.strings_TrimPrefix Tryd.laysTrim s ⟨#[45]⟩ w).mono ?_
  rintro e w' ⟨he, rfl⟩
  exact ⟨he, rfl⟩
set_option maxRecDepth 100000 in
theorem pshort_any (n : Int) (h0 : -9223372036854775808 ≤ n) (h1 : n ≤ 9223372036854775807) (w : World) (ht : Tab10 w) :
    Calls Tryd.prog 7 #[.int .i64 n] w fun e w' => e = .returned (.bool (fitsA n)) ∧ Ext w w' := by
  have HT := Lib.hid ht
  have HF := Lib.hid (show fitsA n = decide (((Lib.trimPrefix (Lib.itoa n) [45]).length : Int) ≤ 18) from by
    rw [fitsA_digits, trim_itoa]; rw [decide_eq_decide]; omega)
  clear ht
  go_enter Tryd.func7, Tryd.ntmps7
  go_wp2_with (first | (go_at_call 12; refine (pitoa_any n h0 h1 _ HT.out).mono ?_; rintro e w1 ⟨rfl, hx1⟩) | (go_at_call 24; refine (ptrim_any _ _).mono ?_; rintro e w' ⟨rfl, rfl⟩))
  go_ret
  exact ⟨by rw [HF.out]; trivial, hx1⟩
end Go.Proofs.YtnkcldhjbhdejaaDoor
