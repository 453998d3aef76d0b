/- The closed fact of the machine's laws: contract. -/
import Derived.Test.YtaodmkngakikjaaMl
import Derived.Test.YtaodmkngakikjaaEr
namespace Go.Att
open Go.RowKit
def lcode : List In4 := [⟨5, 0, 5, 0⟩, ⟨5, 1, -1, 0⟩, ⟨3, 0, 1, 2⟩, ⟨0, 2, 0, 0⟩]
def rdone : Rw → Option (Nat × Int × List (Int × Int))
  | .done l o m => some (l.length, o, m)
  | .no _ => none
theorem lrun_eq : rdone (walkM 97 3 lcode 3) = some (4, 92, [(0, 0), (1, 5), (2, 96), (3, 92)]) := by decide +kernel
theorem lrun_done : ∃ l mem, walkM 97 3 lcode 3 = .done l 92 mem ∧ l.length = 4 ∧ ∀ L, CellsOf mem L → L.length = 3 := by
  have h := lrun_eq
  generalize walkM 97 3 lcode 3 = r at h
  cases r with
  | no k => cases h
  | done l o m =>
    simp only [rdone, Option.some.injEq, Prod.mk.injEq] at h
    obtain ⟨h1, h2, h3⟩ := h
    subst h2 h3
    refine ⟨l, _, rfl, h1, fun L hL => ?_⟩
    have hc : CellsOf [(0, 0), (1, 5), (2, 96), (3, 92)] [(1, 5), (2, 96), (3, 92)] := ⟨by simp, fun c => by
      simp only [List.mem_cons, List.not_mem_nil, or_false]
      constructor
      · rintro (rfl | rfl | rfl) <;> simp
      · rintro ⟨rfl | rfl | rfl | rfl, h⟩
        · simp at h
        · simp
        · simp
        · simp⟩
    rw [hL.one hc]; rfl
theorem lit_inqs (w : World) (t : TypeId) : Inqs (w.alloc (Obj.cells (flatQ lcode).toArray t)) (.slice (some ⟨w.heap.size, 0, none⟩) 4 4) lcode := by
  refine ⟨_, _, rfl, rfl, Nat.le_refl _, by unfold maxLen; omega, fun i hi => ⟨_, _, rfl, ?_⟩⟩
  have := (BlkOf.new w (flatQ lcode) t).cell i
  rw [Nat.zero_add, this, List.getElem?_eq_getElem hi]
end Go.Att
namespace Go.Proofs.Ytaodmkngakikjaa
open Go.RowKit Go.Att
theorem okP97 : okP 97 := by
  refine ⟨prime_end (k := 10) (by decide) (by decide) (by decide) (fun d h1 h2 hd => ?_), by decide, by decide⟩
  have h : d = 2 ∨ d = 3 ∨ d = 4 ∨ d = 5 ∨ d = 6 ∨ d = 7 ∨ d = 8 ∨ d = 9 := by omega
  rcases h with rfl | rfl | rfl | rfl | rfl | rfl | rfl | rfl <;> exact absurd hd (by decide)
set_option maxRecDepth 100000 in
set_option maxHeartbeats 4000000 in
theorem lives6_any (w : World) : Calls Try.prog 5 #[] w fun e w' => e = .returned (.bool true) ∧ Ext w w' := by
  go_enter Try.func5, Try.ntmps5
  go_wp2_with (go_at_call 6; refine (plain_ok6 _ _ okP97).mono ?_; rintro e w1 ⟨v, rfl, hx, g, hf⟩; obtain ⟨b, rfl⟩ := hf.ptr)
  obtain ⟨fs, hfl⟩ := hf.fld
  have hxa := Ext.alloc w1 (Obj.cells (flatQ lcode).toArray 50)
  have hxb := Ext.alloc (w1.alloc (Obj.cells (flatQ lcode).toArray 50)) (Obj.cells #[.int .i64 3, .slice (some ⟨w1.heap.size, 0, none⟩) 4 4] 24)
  obtain ⟨l, mem, hr, hl4, hcl⟩ := lrun_done
  have C := prun_any (sz := 3) (lim := 3) (cd := lcode) (hfl.ext (hxa.trans hxb)) ((lit_inqs w1 50).ext hxb)
  rw [hr] at C
  have HX := Lib.hid (hx.trans (hxa.trans hxb))
  clear hf hfl hx hxa hxb hr
  refine C.mono ?_
  rintro e w2 ⟨v, L, rfl, hc, hv, hx2⟩
  have h3 := hcl L hc
  obtain ⟨av, cv, rfl⟩ := prs_shape hv
  have HX2 := Lib.hid (HX.out.trans hx2)
  rw [h3, show (l.length : Int) - 1 = 3 by omega]
  clear C hcl hc hv hx2 HX h3 hl4
  go_wp2_with fail
  go_ret
  exact ⟨rfl, HX2.out.trans (Ext.alloc _ _)⟩
end Go.Proofs.Ytaodmkngakikjaa
