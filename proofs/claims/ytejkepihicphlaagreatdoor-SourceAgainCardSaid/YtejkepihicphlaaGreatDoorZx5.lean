/- Code as text, the document's side: numbers, an instruction's numbers: contracts. Code as text, the program's side: numbers as text by the library: contracts. Code as text: an instruction's numbers, both sides: contracts. -/
import Derived.Test.YtejkepihicphlaaGreatDoorZx4
import Derived.Lib.ItoaMem
import Derived.Test.YtejkepihicphlaaGreatDoorFa
import Derived.Shelf.Strconv.Itoa3
import Derived.Shelf.Strings.Prefix
section
namespace Go.Att
open Go.RowKit
end Go.Att
namespace Go.Proofs.YtejkepihicphlaaGreatDoor
open Go.RowKit Go.Att
end Go.Proofs.YtejkepihicphlaaGreatDoor
end
section
namespace Go.Att
open Go.RowKit
theorem ext_grow (w : World) (n : Nat) (os : Array Obj) : Ext w (Go.Sort.grow (w.drewN n) os) := by
  have h : Below w.heap.size (w.drewN n) (Go.Sort.grow (w.drewN n) os) := by
    refine ⟨rfl, rfl, rfl, ?_, fun k hk => ?_⟩
    · simp [Go.Sort.grow]
    · have hk' : k < (w.drewN n).heap.size := hk
      simp only [Go.Sort.grow]
      rw [Array.getElem?_append_left hk']
  exact (Ext.drewN w n).trans h
end Go.Att
namespace Go.Proofs.YtejkepihicphlaaGreatDoor
open Go.RowKit Go.Att Go.Shelf
def Tryz.laysItoa_ren : Go.Shelf.Ren := ⟨fun | 171 => 68 | 243 => 119 | 246 => 157 | 283 => 185 | 284 => 186 | 285 => 187 | 286 => 188 | 129 => 204 | 317 => 203 | 318 => 205 | 319 => 206 | 320 => 207 | 337 => 215 | 338 => 216 | n => n, fun | 3 => 3 | 9 => 9 | 2 => 2 | 4 => 4 | 171 => 258 | 0 => 0 | 53 => 259 | 37 => 78 | 5 => 5 | 173 => 262 | 212 => 271 | 51 => 272 | 20 => 20 | 213 => 273 | 46 => 238 | 232 => 293 | 233 => 294 | n => n, fun | 17 => 3 | 18 => 8 | 19 => 9 | n => n⟩
theorem Tryz.laysItoa : Go.Proofs.LaysM.n171 Tryz.prog Tryz.laysItoa_ren := {
  mixed := by kernel_rfl,
  f129 := Tryz.func204.trans (congrArg some (by kernel_rfl)),
  f171 := Tryz.func68.trans (congrArg some (by kernel_rfl)),
  f243 := Tryz.func119.trans (congrArg some (by kernel_rfl)),
  f246 := Tryz.func157.trans (congrArg some (by kernel_rfl)),
  f283 := Tryz.func185.trans (congrArg some (by kernel_rfl)),
  f284 := Tryz.func186.trans (congrArg some (by kernel_rfl)),
  f285 := Tryz.func187.trans (congrArg some (by kernel_rfl)),
  f286 := Tryz.func188.trans (congrArg some (by kernel_rfl)),
  f317 := Tryz.func203.trans (congrArg some (by kernel_rfl)),
  f318 := Tryz.func205.trans (congrArg some (by kernel_rfl)),
  f319 := Tryz.func206.trans (congrArg some (by kernel_rfl)),
  f320 := Tryz.func207.trans (congrArg some (by kernel_rfl)),
  f337 := Tryz.func215.trans (congrArg some (by kernel_rfl)),
  f338 := Tryz.func216.trans (congrArg some (by kernel_rfl)),
  t0 := Tryz.underlying0,
  a0 := Tryz.isAgg0,
  z0 := Tryz.sizeOf0,
  v0 := Tryz.zeroValue0,
  t2 := Tryz.underlying2,
  a2 := Tryz.isAgg2,
  z2 := Tryz.sizeOf2,
  v2 := Tryz.zeroValue2,
  t3 := Tryz.underlying3,
  a3 := Tryz.isAgg3,
  z3 := Tryz.sizeOf3,
  v3 := Tryz.zeroValue3,
  t4 := Tryz.underlying4,
  a4 := Tryz.isAgg4,
  z4 := Tryz.sizeOf4,
  v4 := Tryz.zeroValue4,
  t5 := Tryz.underlying5,
  a5 := Tryz.isAgg5,
  z5 := Tryz.sizeOf5,
  v5 := Tryz.zeroValue5,
  t9 := Tryz.underlying9,
  a9 := Tryz.isAgg9,
  z9 := Tryz.sizeOf9,
  v9 := Tryz.zeroValue9,
  t20 := Tryz.underlying20,
  a20 := Tryz.isAgg20,
  z20 := Tryz.sizeOf20,
  v20 := Tryz.zeroValue20,
  t37 := Tryz.underlying78,
  a37 := Tryz.isAgg78,
  z37 := Tryz.sizeOf78,
  v37 := Tryz.zeroValue78,
  t46 := Tryz.underlying238,
  a46 := Tryz.isAgg238,
  z46 := Tryz.sizeOf238,
  v46 := Tryz.zeroValue238,
  t51 := Tryz.underlying272,
  a51 := Tryz.isAgg272,
  z51 := Tryz.sizeOf272,
  v51 := Tryz.zeroValue272,
  t53 := Tryz.underlying259,
  a53 := Tryz.isAgg259,
  z53 := Tryz.sizeOf259,
  v53 := Tryz.zeroValue259,
  t171 := Tryz.underlying258,
  a171 := Tryz.isAgg258,
  z171 := Tryz.sizeOf258,
  v171 := Tryz.zeroValue258,
  t173 := Tryz.underlying262,
  a173 := Tryz.isAgg262,
  z173 := Tryz.sizeOf262,
  v173 := Tryz.zeroValue262,
  t212 := Tryz.underlying271,
  a212 := Tryz.isAgg271,
  z212 := Tryz.sizeOf271,
  v212 := Tryz.zeroValue271,
  t213 := Tryz.underlying273,
  a213 := Tryz.isAgg273,
  z213 := Tryz.sizeOf273,
  t232 := Tryz.underlying293,
  a232 := Tryz.isAgg293,
  z232 := Tryz.sizeOf293,
  v232 := Tryz.zeroValue293,
  t233 := Tryz.underlying294,
  a233 := Tryz.isAgg294,
  z233 := Tryz.sizeOf294,
  v233 := Tryz.zeroValue294,
  g17 := by kernel_rfl,
  g18 := by kernel_rfl,
  g19 := by kernel_rfl,
  i0 := by kernel_rfl,
  i2 := by kernel_rfl,
  i3 := by kernel_rfl,
  i4 := by kernel_rfl,
  i5 := by kernel_rfl,
  i9 := by kernel_rfl,
  i20 := by kernel_rfl,
  i37 := by kernel_rfl,
  i46 := by kernel_rfl,
  i51 := by kernel_rfl,
  i53 := by kernel_rfl,
  i171 := by kernel_rfl,
  i173 := by kernel_rfl,
  i212 := by kernel_rfl,
  i232 := by kernel_rfl,
  i233 := by kernel_rfl,
  m17 := by kernel_rfl,
  m18 := by kernel_rfl,
  m19 := by kernel_rfl }
abbrev Tab10 (w : World) : Prop := Lib.TabIs Tryz.prog w "internal/strconv.uint64pow10" .u64 Lib.pow10Tab
theorem pitoa_any (n : Int) (h0 : -9223372036854775808 ≤ n) (h1 : n ≤ 9223372036854775807) (w : World) (ht : Tab10 w) :
    Calls Tryz.prog 68 #[.int .i64 n] w fun e w' => e = .returned (.string ⟨(Lib.itoa n).toArray⟩) ∧ Ext w w' := by
  refine (Any.strconv_Itoa Tryz.laysItoa n h0 h1 w ht).mono ?_
  rintro e w' ⟨he, k, os, rfl⟩
  exact ⟨he, ext_grow w k os⟩
end Go.Proofs.YtejkepihicphlaaGreatDoor
end
section
namespace Go.Att
open Go.RowKit
end Go.Att
namespace Go.Proofs.YtejkepihicphlaaGreatDoor
open Go.RowKit Go.Att
end Go.Proofs.YtejkepihicphlaaGreatDoor
end
