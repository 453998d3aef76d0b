/- Code as text, the program's side: the table of forms; whether an instruction can be written: contract. Code as text, the program's side: whether each instruction can be written: contract. Code as text, the program's side: strings.Join, strings.Builder: the library's contracts in plain words. -/
import Derived.Test.YtejkepihicphlaaGreatDoorAy
import Derived.Lib.SmallJoins
import Derived.Shelf.Strings.OnBuilder
import Derived.Shelf.Strings.BuilderX
section
namespace Go.Att
open Go.RowKit
def opLA (op : Nat) : List UInt8 := (opsA op).map fun t => if t = true then 116 else 110
end Go.Att
namespace Go.Proofs.YtejkepihicphlaaGreatDoor
open Go.RowKit Go.Att Go.Shelf
structure Forms (w : World) : Prop where
  lt : 0 < w.heap.size
  word : ∀ k, k < 14 → w.cell? ⟨0, 2 * k, none⟩ = some (.string ⟨(wordA k).toArray⟩)
  ops : ∀ k, k < 14 → w.cell? ⟨0, 2 * k + 1, none⟩ = some (.string ⟨(opLA k).toArray⟩)
theorem Forms.ext {w w' : World} (h : Forms w) (hx : Ext w w') : Forms w' := ⟨Nat.lt_of_lt_of_le h.lt hx.size, fun k hk => hx.cell (h.word k hk), fun k hk => hx.cell (h.ops k hk)⟩
theorem Forms.grown {w w' : World} {b : Nat} (h : Forms w) (hg : w.grownBy w' (some b)) (hb : b ≠ 0) : Forms w' :=
  ⟨Nat.lt_of_lt_of_le h.lt hg.size, fun k hk => by rw [World.cell?_of_block (hg.block _ h.lt (fun e => hb (Option.some.inj e).symm))]; exact h.word k hk,
   fun k hk => by rw [World.cell?_of_block (hg.block _ h.lt (fun e => hb (Option.some.inj e).symm))]; exact h.ops k hk⟩
theorem kPow : ∃ g, Tryz.prog.globalNamed "internal/strconv.uint64pow10" = some g := ⟨3, by kernel_rfl⟩
theorem Tab10.ext {w w' : World} (h : Tab10 w) (hx : Ext w w') : Tab10 w' := by
  obtain ⟨g, hg⟩ := kPow
  exact Go.Joins.tab_stays hg h hx (Nat.le_refl _)
end Go.Proofs.YtejkepihicphlaaGreatDoor
end
section
namespace Go.Att
open Go.RowKit
end Go.Att
namespace Go.Proofs.YtejkepihicphlaaGreatDoor
open Go.RowKit Go.Att Go.Shelf
end Go.Proofs.YtejkepihicphlaaGreatDoor
end
section
namespace Go.Proofs.YtejkepihicphlaaGreatDoor
open Go.RowKit Go.Att Go.Shelf
def Tryz.laysJoin_ren : Go.Shelf.Ren := ⟨fun | 156 => 28 | 165 => 67 | 166 => 27 | 169 => 30 | 240 => 66 | 241 => 118 | 276 => 117 | 277 => 156 | n => n, fun | 31 => 57 | 9 => 9 | 3 => 3 | 4 => 4 | 0 => 0 | 20 => 20 | 72 => 80 | 76 => 81 | 70 => 77 | 37 => 78 | 75 => 24 | 127 => 162 | 164 => 198 | 5 => 5 | 80 => 27 | n => n, fun | n => n⟩
theorem Tryz.laysJoin : Go.Proofs.Lays.n156 Tryz.prog Tryz.laysJoin_ren := {
  mixed := by kernel_rfl,
  f156 := Tryz.func28.trans (congrArg some (by kernel_rfl)),
  f165 := Tryz.func67.trans (congrArg some (by kernel_rfl)),
  f166 := Tryz.func27.trans (congrArg some (by kernel_rfl)),
  f169 := Tryz.func30.trans (congrArg some (by kernel_rfl)),
  f240 := Tryz.func66.trans (congrArg some (by kernel_rfl)),
  f241 := Tryz.func118.trans (congrArg some (by kernel_rfl)),
  f276 := Tryz.func117.trans (congrArg some (by kernel_rfl)),
  f277 := Tryz.func156.trans (congrArg some (by kernel_rfl)),
  t0 := Tryz.underlying0,
  a0 := Tryz.isAgg0,
  z0 := Tryz.sizeOf0,
  v0 := Tryz.zeroValue0,
  t3 := Tryz.underlying3,
  a3 := Tryz.isAgg3,
  z3 := Tryz.sizeOf3,
  v3 := Tryz.zeroValue3,
  t4 := Tryz.underlying4,
  a4 := Tryz.isAgg4,
  z4 := Tryz.sizeOf4,
  v4 := Tryz.zeroValue4,
  t9 := Tryz.underlying9,
  a9 := Tryz.isAgg9,
  z9 := Tryz.sizeOf9,
  v9 := Tryz.zeroValue9,
  t20 := Tryz.underlying20,
  a20 := Tryz.isAgg20,
  z20 := Tryz.sizeOf20,
  v20 := Tryz.zeroValue20,
  t31 := Tryz.underlying57,
  a31 := Tryz.isAgg57,
  z31 := Tryz.sizeOf57,
  v31 := Tryz.zeroValue57,
  t37 := Tryz.underlying78,
  a37 := Tryz.isAgg78,
  z37 := Tryz.sizeOf78,
  v37 := Tryz.zeroValue78,
  t70 := Tryz.underlying77,
  a70 := Tryz.isAgg77,
  z70 := Tryz.sizeOf77,
  v70 := Tryz.zeroValue77,
  t72 := Tryz.underlying80,
  a72 := Tryz.isAgg80,
  z72 := Tryz.sizeOf80,
  v72 := Tryz.zeroValue80,
  t75 := Tryz.underlying24,
  a75 := Tryz.isAgg24,
  z75 := Tryz.sizeOf24,
  v75 := Tryz.zeroValue24,
  t76 := Tryz.underlying81,
  a76 := Tryz.isAgg81,
  z76 := Tryz.sizeOf81,
  v76 := Tryz.zeroValue81,
  t127 := Tryz.underlying162,
  a127 := Tryz.isAgg162,
  z127 := Tryz.sizeOf162,
  v127 := Tryz.zeroValue162,
  t164 := Tryz.underlying198,
  a164 := Tryz.isAgg198,
  z164 := Tryz.sizeOf198,
  v164 := Tryz.zeroValue198 }
theorem laysBuild : Builder.Extra Tryz.prog Tryz.laysJoin_ren := {
  sizeBuilder := by kernel_rfl
  liesBuilder := by kernel_rfl
  t5 := Tryz.underlying5
  a5 := Tryz.isAgg5
  z5 := Tryz.sizeOf5
  v5 := Tryz.zeroValue5
  infoByte := by kernel_rfl
  cellsByte := by kernel_rfl
  sizeByte := by kernel_rfl
  neB5 := by decide }
theorem laysWrite : Lays.n166 Tryz.prog Tryz.laysJoin_ren := { Tryz.laysJoin with }
theorem laysText : Lays.n169 Tryz.prog Tryz.laysJoin_ren := { Tryz.laysJoin with }
def Bld (B b : Nat) (l : List UInt8) (w : World) : Prop := Lib.IsBuilder 80 5 B b (Lib.byteCells l) w
theorem bld_new (w : World) : Bld w.heap.size w.heap.size [] (w.alloc (.cells #[.pointer none, .slice none 0 0] 80)) := Lib.fresh_isBuilder _ _ _
theorem pwrite_any {B b : Nat} {l : List UInt8} (s : List UInt8) {w : World} (h : Bld B b l w) (hl : l.length + s.length ≤ 140737488355328) (hB : B ≤ w.heap.size) :
    Calls Tryz.prog 27 #[.pointer (some ⟨b, 0, none⟩), .string ⟨s.toArray⟩] w fun e w' => e = .returned (.tuple #[.int .i64 (s.length : Int), .nilIface]) ∧ Bld B b (l ++ s) w' ∧ Below B w w' := by
  have hz : (ByteArray.mk s.toArray).size = s.length := by show s.toArray.size = _; simp
  refine (Any.Builder_WriteString laysWrite laysBuild B b (Lib.byteCells l) ⟨s.toArray⟩ w h (by rw [Lib.byteCells_length, hz]; exact hl) hB).mono ?_
  rintro e w' ⟨he, h1, h2⟩
  rw [hz] at he
  have e2 : Lib.byteCells l ++ Lib.strCells ⟨s.toArray⟩ = Lib.byteCells (l ++ s) := by simp [Lib.byteCells, Lib.strCells]
  rw [e2] at h1
  exact ⟨he, .inr h1, h2⟩
theorem ptext_any {B b : Nat} {l : List UInt8} {w : World} (h : Bld B b l w) (hB : B ≤ w.heap.size) :
    Calls Tryz.prog 30 #[.pointer (some ⟨b, 0, none⟩)] w fun e w' => e = .returned (.string ⟨l.toArray⟩) ∧ Below B w w' :=
  Any.Builder_String_any laysText laysBuild B b l w h hB
end Go.Proofs.YtejkepihicphlaaGreatDoor
end
