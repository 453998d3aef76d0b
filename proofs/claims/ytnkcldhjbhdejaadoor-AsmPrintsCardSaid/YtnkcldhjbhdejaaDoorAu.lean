/- Code as text, the document's side: a letter of what follows a word: how the machine reads it. -/
import Derived.Test.YtnkcldhjbhdejaaDoorAt
namespace Go.Proofs.YtnkcldhjbhdejaaDoor
open Go.RowKit Go.Att
theorem need_len (op : Nat) (_h : op < 14) : (needA op).length = (opsA op).length := by simp [needA]
/-- A byte of a string. -/
theorem str_index (l : List UInt8) (i : Nat) (h : i < l.length) (w' : World) :
    (Instr.index 9 (.string ⟨l.toArray⟩) (.int .i64 i)).run Tryd.prog w' = .ok (.int .u8 (l[i]).toNat) w' := by
  have hu := run_underlying Tryd.underlying9
  have hg : (ByteArray.mk l.toArray)[i]? = some l[i] := by
    have hs : i < (ByteArray.mk l.toArray).size := by show i < l.toArray.size; simpa using h
    rw [getElem?_pos (ByteArray.mk l.toArray) i hs]
    simp [ByteArray.getElem_eq_getElem_data]
  simp [Instr.index, asIntOf, hu, hg]
theorem need_at (op : Nat) (h : op < 14) (i : Nat) (hi : i < (opsA op).length) : (((needA op)[i]'(by rw [need_len op h]; exact hi)).toNat : Int) = letA ((opsA op).getD i false) i := by
  have h3 : i < 3 := by have := (opsA_len op).2; omega
  simp only [needA, List.getElem_map, List.getElem_range, letA]
  split <;> simp <;> omega
end Go.Proofs.YtnkcldhjbhdejaaDoor
