/- Code as text, the program's side: strings.Join, strings.Builder: the library's contracts in plain words. -/
import Derived.Test.YtnkcldhjbhdejaaDoorPa
import Derived.Shelf.Strings.OnBuilder
import Derived.Shelf.Strings.BuilderX
namespace Go.Proofs.YtnkcldhjbhdejaaDoor
open Go.RowKit Go.Att Go.Shelf
def Tryd.laysJoin_ren : Go.Shelf.Ren := ⟨fun | 156 => 14 | 165 => 27 | 166 => 15 | 169 => 16 | 240 => 28 | 241 => 32 | 276 => 33 | 277 => 43 | n => n, fun | 31 => 41 | 9 => 9 | 3 => 3 | 4 => 4 | 0 => 0 | 20 => 20 | 72 => 52 | 76 => 53 | 70 => 49 | 37 => 50 | 75 => 26 | 127 => 63 | 164 => 68 | 5 => 5 | 80 => 55 | n => n, fun | n => n⟩
theorem Tryd.laysJoin : Go.Proofs.Lays.n156 Tryd.prog Tryd.laysJoin_ren := {
  mixed := by kernel_rfl,
  f156 := Tryd.func14.trans (congrArg some (by kernel_rfl)),
  f165 := Tryd.func27.trans (congrArg some (by kernel_rfl)),
  f166 := Tryd.func15.trans (congrArg some (by kernel_rfl)),
  f169 := Tryd.func16.trans (congrArg some (by kernel_rfl)),
  f240 := Tryd.func28.trans (congrArg some (by kernel_rfl)),
  f241 := Tryd.func32.trans (congrArg some (by kernel_rfl)),
  f276 := Tryd.func33.trans (congrArg some (by kernel_rfl)),
  f277 := Tryd.func43.trans (congrArg some (by kernel_rfl)),
  t0 := Tryd.underlying0,
  a0 := Tryd.isAgg0,
  z0 := Tryd.sizeOf0,
  v0 := Tryd.zeroValue0,
  t3 := Tryd.underlying3,
  a3 := Tryd.isAgg3,
  z3 := Tryd.sizeOf3,
  v3 := Tryd.zeroValue3,
  t4 := Tryd.underlying4,
  a4 := Tryd.isAgg4,
  z4 := Tryd.sizeOf4,
  v4 := Tryd.zeroValue4,
  t9 := Tryd.underlying9,
  a9 := Tryd.isAgg9,
  z9 := Tryd.sizeOf9,
  v9 := Tryd.zeroValue9,
  t20 := Tryd.underlying20,
  a20 := Tryd.isAgg20,
  z20 := Tryd.sizeOf20,
  v20 := Tryd.zeroValue20,
  t31 := Tryd.underlying41,
  a31 := Tryd.isAgg41,
  z31 := Tryd.sizeOf41,
  v31 := Tryd.zeroValue41,
  t37 := Tryd.underlying50,
  a37 := Tryd.isAgg50,
  z37 := Tryd.sizeOf50,
  v37 := Tryd.zeroValue50,
  t70 := Tryd.underlying49,
  a70 := Tryd.isAgg49,
  z70 := Tryd.sizeOf49,
  v70 := Tryd.zeroValue49,
  t72 := Tryd.underlying52,
  a72 := Tryd.isAgg52,
  z72 := Tryd.sizeOf52,
  v72 := Tryd.zeroValue52,
  t75 := Tryd.underlying26,
  a75 := Tryd.isAgg26,
  z75 := Tryd.sizeOf26,
  v75 := Tryd.zeroValue26,
  t76 := Tryd.underlying53,
  a76 := Tryd.isAgg53,
  z76 := Tryd.sizeOf53,
  v76 := Tryd.zeroValue53,
  t127 := Tryd.underlying63,
  a127 := Tryd.isAgg63,
  z127 := Tryd.sizeOf63,
  v127 := Tryd.zeroValue63,
  t164 := Tryd.underlying68,
  a164 := Tryd.isAgg68,
  z164 := Tryd.sizeOf68,
  v164 := Tryd.zeroValue68 }
theorem laysBuild : Builder.Extra Tryd.prog Tryd.laysJoin_ren := {
  sizeBuilder := by kernel_rfl
  liesBuilder := by kernel_rfl
  t5 := Tryd.underlying5
  a5 := Tryd.isAgg5
  z5 := Tryd.sizeOf5
  v5 := Tryd.zeroValue5
  infoByte := by kernel_rfl
  cellsByte := by kernel_rfl
  sizeByte := by kernel_rfl
  neB5 := by decide }
theorem laysWrite : Lays.n166 Tryd.prog Tryd.laysJoin_ren := { Tryd.laysJoin with }
theorem laysText : Lays.n169 Tryd.prog Tryd.laysJoin_ren := { Tryd.laysJoin with }
/-- A builder of the call's own that holds a text. -/
def Bld (B b : Nat) (l : List UInt8) (w : World) : Prop := Lib.IsBuilder 52 5 B b (Lib.byteCells l) w
theorem bld_new (w : World) : Bld w.heap.size w.heap.size [] (w.alloc (.cells #[.pointer none, .slice none 0 0] 52)) := Lib.fresh_isBuilder _ _ _
theorem pwrite_any {B b : Nat} {l : List UInt8} (s : List UInt8) {w : World} (h : Bld B b l w) (hl : l.length + s.length ≤ 140737488355328) (hB : B ≤ w.heap.size) :
    Calls Tryd.prog 15 #[.pointer (some ⟨b, 0, none⟩), .string ⟨s.toArray⟩] w fun e w' => e = .returned (.tuple #[.int .i64 (s.length : Int), .nilIface]) ∧ Bld B b (l ++ s) w' ∧ Below B w w' := by
  have hz : (ByteArray.mk s.toArray).size = s.length := by show s.toArray.size = _; simp
  refine (Any.Builder_WriteString laysWrite laysBuild B b (Lib.byteCells l) ⟨s.toArray⟩ w h (by rw [Lib.byteCells_length, hz]; exact hl) hB).mono ?_
  rintro e w' ⟨he, h1, h2⟩
  rw [hz] at he
  have e2 : Lib.byteCells l ++ Lib.strCells ⟨s.toArray⟩ = Lib.byteCells (l ++ s) := by simp [Lib.byteCells, Lib.strCells]
  rw [e2] at h1
  exact ⟨he, .inr h1, h2⟩
theorem ptext_any {B b : Nat} {l : List UInt8} {w : World} (h : Bld B b l w) (hB : B ≤ w.heap.size) :
    Calls Tryd.prog 16 #[.pointer (some ⟨b, 0, none⟩)] w fun e w' => e = .returned (.string ⟨l.toArray⟩) ∧ Below B w w' :=
  Any.Builder_String_any laysText laysBuild B b l w h hB
theorem pjoin_any {v : Value} {L : List (List UInt8)} {w : World} (h : Strs w v L) (hn : 1 ≤ L.length) (hN : L.length ≤ 1000000) (hl : (Lib.join L [32]).length ≤ 1000000) :
    Calls Tryd.prog 14 #[v, .string ⟨#[32]⟩] w fun e w' => e = .returned (.string ⟨(Lib.join L [32]).toArray⟩) ∧ Ext w w' := by
  obtain ⟨ao, cap, rfl, h2, h3, h4, h5⟩ := h
  obtain ⟨b, off, rfl, hc0⟩ := h5 0 (by rw [List.length_map]; omega)
  have hcells : ∀ (j : Nat) x, (L.map fun s => ByteArray.mk s.toArray)[j]? = some x → w.cell? ⟨b, off + j, none⟩ = some (.string x) := by
    intro j x hx
    rw [List.getElem?_map] at hx
    cases hj : L[j]? with
    | none => rw [hj] at hx; cases hx
    | some s =>
      rw [hj] at hx
      obtain rfl := Option.some.inj hx
      obtain ⟨hjl, hje⟩ := List.getElem?_eq_some_iff.1 hj
      obtain ⟨b', off', he, hcj⟩ := h5 j (by rw [List.length_map]; exact hjl)
      obtain ⟨rfl, rfl⟩ : b' = b ∧ off' = off := by simp at he; exact ⟨he.1.symm, he.2.symm⟩
      rw [hcj, List.getElem_map, hje]
  have hm : ((L.map fun s => ByteArray.mk s.toArray).map (·.data.toList)) = L := by
    rw [List.map_map]
    conv => rhs; rw [← List.map_id L]
    apply List.map_congr_left
    intro s _
    simp
  have hs : (ByteArray.mk #[32]).data.toList = [32] := rfl
  have hln : (L.map fun s => ByteArray.mk s.toArray).length = L.length := by simp
  have hb : b < w.heap.size := World.block_lt_of_cell? w _ (by have := hc0; simpa using this)
  have := Any.strings_Join Tryd.laysJoin laysBuild b off cap (L.map fun s => ByteArray.mk s.toArray) ⟨#[32]⟩ w hcells hb (by rw [hln]; omega) (by rw [hln]; exact h3) (by rw [hm, hs]; omega)
  rw [hm, hs, hln] at this
  exact this
end Go.Proofs.YtnkcldhjbhdejaaDoor
