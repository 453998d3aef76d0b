/- What the bound on the bulk gives for lists of lists. -/
import Derived.Test.YthjemncbphdomaaDoorBulk
import Derived.Test.YthjemncbphdomaaDoorWrap2
namespace Go.Proofs.YthjemncbphdomaaDoor.bulks
open Go.Att
theorem row_le {H : Type} {l : List Int} {d : DataW H} (h : RowD l d) : l.length ≤ Rows.uptoBulk d := by
  rcases h with rfl | ⟨es, sp, rfl, e⟩
  · exact Nat.zero_le _
  · have := slice_le es sp; omega
theorem rows_le {H : Type} {L : List (List Int)} {d : DataW H} (h : RowsD L d) : L.length ≤ Rows.uptoBulk d := by
  rcases h with rfl | ⟨es, sp, rfl, e, _⟩
  · exact Nat.zero_le _
  · have := slice_le es sp; omega
theorem rows_row_le {H : Type} {L : List (List Int)} {d : DataW H} (h : RowsD L d) {i : Nat} (hi : i < L.length) : (nthL L i).length ≤ Rows.uptoBulk d := by
  rcases h with rfl | ⟨es, sp, rfl, e, h2⟩
  · simp at hi
  · have h3 := row_le (h2 i (by omega))
    have h4 : Rows.uptoBulk es[i] ≤ Rows.uptoBulkAll es := part_le (List.getElem_mem _)
    have := slice_elems es sp
    omega
end Go.Proofs.YthjemncbphdomaaDoor.bulks
