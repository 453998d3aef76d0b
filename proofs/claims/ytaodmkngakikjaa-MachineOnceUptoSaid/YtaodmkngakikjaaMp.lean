/- What both runs come to, in one form. -/
import Derived.Test.YtaodmkngakikjaaMl
import Derived.Test.YtaodmkngakikjaaMn
import Derived.Test.YtaodmkngakikjaaEr
namespace Go.Att
open Go.RowKit
/-- A run as three numbers, a list and what is wrong. -/
def RanIs (r : Rw) (o n : Int) (L : List (Int × Int)) (k : Int) : Prop :=
  match r with
  | .done l out mem => o = out ∧ n = (l.length : Int) - 1 ∧ CellsOf mem L ∧ k = 0
  | .no j => o = 0 ∧ n = 0 ∧ L = [] ∧ k = j
theorem RanIs.one {r : Rw} {o n o' n' k k' : Int} {L L' : List (Int × Int)} (h : RanIs r o n L k) (h' : RanIs r o' n' L' k') : o = o' ∧ n = n' ∧ L = L' ∧ k = k' := by
  unfold RanIs at h h'
  cases r with
  | done l out mem =>
    obtain ⟨rfl, rfl, h3, rfl⟩ := h
    obtain ⟨rfl, rfl, h4, rfl⟩ := h'
    exact ⟨rfl, rfl, h3.one h4, rfl⟩
  | no j =>
    obtain ⟨rfl, rfl, rfl, rfl⟩ := h
    obtain ⟨rfl, rfl, rfl, rfl⟩ := h'
    exact ⟨rfl, rfl, rfl, rfl⟩
theorem prs_nil (w : World) : Prs w (.slice none 0 0) [] := ⟨none, 0, rfl, rfl, Nat.le_refl _, by unfold maxLen; omega, fun i hi => by simp [flatP] at hi⟩
end Go.Att
namespace Go.Proofs.Ytaodmkngakikjaa
open Go.RowKit Go.Att
/-- What the program's Run comes to. -/
def RGot (w : World) (r : Rw) (e : Ending) (w' : World) : Prop := ∃ o n v L k, e = .returned (.tuple #[.agg #[.int .i64 o, .int .i64 n, v], errv k]) ∧ RanIs r o n L k ∧ Prs w' v L ∧ Ext w w'
section
variable {w : World} {p g : Int} {fs : List Int} {sz : Int} {lv : Value} {cd : List In4} {lim : Int}
theorem run_got {f : Value} (hf : Fld w f p g fs) (hc : Inqs w lv cd) : Calls Try.prog 7 #[f, .agg #[.int .i64 sz, lv], .int .i64 lim] w (RGot w (walkM p sz cd lim)) := by
  refine (prun_any hf hc).mono ?_
  intro e w' h
  cases hR : walkM p sz cd lim with
  | no k =>
    rw [hR] at h
    obtain ⟨rfl, hx⟩ := h
    exact ⟨0, 0, _, [], k, by rw [errv_pos (walkM_nz hR)], ⟨rfl, rfl, rfl, rfl⟩, prs_nil _, hx⟩
  | done l out mem =>
    rw [hR] at h
    obtain ⟨v, L, rfl, hc, hv, hx⟩ := h
    exact ⟨_, _, v, L, 0, rfl, ⟨rfl, rfl, hc, rfl⟩, hv, hx⟩
end
end Go.Proofs.Ytaodmkngakikjaa
