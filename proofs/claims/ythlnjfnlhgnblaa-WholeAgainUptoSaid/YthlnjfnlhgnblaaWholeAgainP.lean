/- WholeAgain: for arguments of bulk at most 1048576 the law returns true, and each argument reads afterwards as it did; the listed variable is tied to the program's text. No other condition. -/
import Derived.Test.YthlnjfnlhgnblaaWholeAgain
import Derived.Test.YthlnjfnlhgnblaaPlain
import Derived.Test.YthlnjfnlhgnblaaBulk
import Derived.Test.YthlnjfnlhgnblaaBy
namespace Go.Proofs.Ythlnjfnlhgnblaa.wholeAgain
open Go.ChangeShapes Go.WideShapes Go.ChangeAt Go.RowKit Go.Att

set_option maxRecDepth 100000 in
theorem contract (H : Type) (enc : TypeId × Value → H) (W : World) (base : Nat) (args : Array Value) (ds gs : List (DataW H)) (before : List MemPlace)
    (hval : ∀ (j : Nat) t v, Try.f3.params[j]? = some t → args[j]? = some v → Value.okWide Try.prog W .any base t v)
    (hW : DataW.Whole enc Try.prog Try.f3.params.toList Rows.wholeAgainSpec.vars false W args.toList ds gs before) (hL : laidMetH Try.prog Rows.wholeAgainUptoRow.laid W) (hk : Rows.uptoSmall H (ds ++ gs) = true) :
    Calls Try.prog 3 args W fun e W' => ∃ v, e = .returned v ∧ Rows.wholeAgainSpec.post enc Try.prog Try.f3 false true false false W args v W' := by
  have hW' := hW
  obtain ⟨p, q, hA, hV, rfl, hfz, hnd⟩ := hW
  rw [Try.params3] at hA hval
  obtain ⟨v0, vs0, d0, ds0, p0, q0, hargs, rfl, rfl, h0, r0⟩ := trodAll_cons hA
  obtain ⟨rfl, rfl, rfl⟩ := trodAll_nil r0
  obtain rfl : args = #[v0] := by cases args; simp_all
  obtain ⟨ao0, n0, c0, rfl⟩ := okWide_slice Try.underlying22 (hval 0 22 v0 rfl rfl)
  obtain ⟨l0, hx0, hb0, e0⟩ := open_Byts Try.underlying22 Try.underlying5 (by kernel_rfl) rfl h0
  have hbulk := bulks.bound hk
  rw [bulks.append] at hbulk
  have len_of : ∀ {d : DataW H} {n : Nat}, (n = 0 ∨ ∃ es sp, d = .slice es sp ∧ es.length = n) → n ≤ Rows.uptoBulk d := by
    intro d n h
    rcases h with rfl | ⟨es, sp, rfl, rfl⟩
    · exact Nat.zero_le _
    · have := bulks.slice_le es sp; omega
  have b0 := len_of (d := d0) (n := l0.length) (by rcases e0 with rfl | ⟨es, sp, e1, e2⟩; exact .inl rfl; exact .inr ⟨es, sp, e1, e2⟩)
  simp only [Rows.uptoBulkAll] at hbulk
  have walk : Calls Try.prog 3 #[.slice ao0 n0 c0] W fun e w' => e = .returned (.bool true) ∧ Ext W w' := by
    exact wholeAgain_any W (.slice ao0 n0 c0) l0 hx0 hb0 (by omega)
  refine walk.mono fun e W' ⟨he, hx'⟩ => ?_
  subst he
  exact ⟨_, rfl, law_post kLaidOut (by kernel_rfl) rfl Try.underlying4 rfl hW' rfl hx'⟩

theorem reads (os : Os) {H : Type} (enc : TypeId × Value → H) : ∃ places, DataW.whole enc Try.prog ((laidWorld os).forCall (fun _ _ => 0) ⟨#[], #[.slice none 0 0], []⟩).memory Try.f3.params.toList Rows.wholeAgainSpec.vars false #[Value.slice none 0 0].toList 8 = some ([.nil], [], places) :=
  ⟨[], by kernel_rfl⟩

set_option maxRecDepth 100000 in
theorem liftedUpto (os : Os) (started : os.Started) (H : Type) (enc : TypeId × Value → H) (F : Stop.Interp) :
    ReturnsInHanded {} Try.checked os 3 .any ((Rows.OpenSpec.upto Rows.wholeAgainSpec).preRow enc Try.prog Try.f3 Rows.wholeAgainUptoRow.domain false Rows.wholeAgainUptoRow.laid) (((Rows.OpenSpec.upto Rows.wholeAgainSpec).at F).post enc Try.prog Try.f3 false true false false) := by
  obtain ⟨places, hx⟩ := reads os enc
  refine returnsInHanded_of_row (C := Try.checked) (s := Rows.OpenSpec.upto Rows.wholeAgainSpec) kOwn started (by kernel_rfl) Try.func3
    (witness_row_at (enc := enc) (C := Try.checked) false (laidWorld os) #[.slice none 0 0] rfl (by kernel_rfl) (by kernel_rfl) (by kernel_rfl)
      (OpenSpec.preRow_of_cond 8 hx (by kernel_rfl) (fun k hk => by cases hk; kernel_rfl) (by kernel_rfl) (laidWorld_met os _))) ?_
  intro W base args ds gs before hval hW _ hcond _ hL _ _
  exact contract H enc W base args ds gs before hval hW hL (hcond _ rfl)

theorem saidUpto : Rows.WholeAgainUptoSaid :=
  OpenClaim.holds_of_cond 3 Try.f3 rfl rfl rfl rfl rfl rfl rfl ⟨rfl, rfl, rfl, rfl, rfl⟩ rfl rfl rfl rfl rfl (by kernel_rfl) Try.func3 (by kernel_rfl)
    (of_decide_eq_true (by kernel_rfl)) (by unfold Func.isWrapper; rw [if_neg (of_decide_eq_false (by kernel_rfl))]; exact ⟨rfl, rfl⟩)
    (fun os started H enc _ F => by rw [OpenClaim.pre_eq_preRow]; exact liftedUpto os started H enc F)
end Go.Proofs.Ythlnjfnlhgnblaa.wholeAgain
