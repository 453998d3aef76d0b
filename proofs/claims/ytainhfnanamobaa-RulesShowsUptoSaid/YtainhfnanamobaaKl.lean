/- RulesBroken: the program's side: what a rule is asked of. -/
import Derived.Test.YtainhfnanamobaaK2
import Derived.Test.YtainhfnanamobaaIq
import Derived.Test.YtainhfnanamobaaFa
import Derived.BigQuiet
import Derived.IntWalk
namespace Go.Att
open Go.RowKit
/-- What the program's rules are asked of lies in a block. -/
structure JAt (w : World) (b : Nat) (f : Value) (p g : Int) (fs : List Int) (sz out : Int) (cd : List In4) (lv rv nv : Value) (r n : List Int) : Prop where
  c0 : w.cell? ⟨b, 0, none⟩ = some f
  c1 : w.cell? ⟨b, 1, none⟩ = some (.int .i64 sz)
  c2 : w.cell? ⟨b, 2, none⟩ = some lv
  c3 : w.cell? ⟨b, 3, none⟩ = some (.int .i64 out)
  c4 : w.cell? ⟨b, 4, none⟩ = some rv
  c5 : w.cell? ⟨b, 5, none⟩ = some nv
  fld : Fld w f p g fs
  code : Inqs w lv cd
  row : Ints w rv r
  next : Ints w nv n
  lr : r.length = 20 + cd.length
  ln : n.length = 20 + cd.length
theorem JAt.ext {w w' : World} {b : Nat} {f : Value} {p g : Int} {fs : List Int} {sz out : Int} {cd : List In4} {lv rv nv : Value} {r n : List Int} (h : JAt w b f p g fs sz out cd lv rv nv r n) (hx : Ext w w') : JAt w' b f p g fs sz out cd lv rv nv r n :=
  ⟨hx.cell h.c0, hx.cell h.c1, hx.cell h.c2, hx.cell h.c3, hx.cell h.c4, hx.cell h.c5, h.fld.ext hx, h.code.ext hx, h.row.ext hx, h.next.ext hx, h.lr, h.ln⟩
theorem drewN_drewN (w : World) (m n : Nat) : (w.drewN m).drewN n = w.drewN (m + n) := by simp [World.drewN, Nat.add_assoc]
end Go.Att
namespace Go.Proofs.Ytainhfnanamobaa
open Go.RowKit Go.Att
section
variable {w : World} {q : Nat} {f : Value} {p g : Int} {fs : List Int} {sz out : Int} {cd : List In4} {lv rv nv : Value} {r n : List Int}
set_option maxRecDepth 100000 in
set_option maxHeartbeats 4000000 in
theorem jv_any (h : JAt w q f p g fs sz out cd lv rv nv r n) (t : Nat) (ti : Int) (ht : (t = 0 ∧ ti = 0) ∨ (t = 1 ∧ ti = 1) ∨ (t = 2 ∧ ti = 2)) : Calls Try.prog 54 #[.pointer (some ⟨q, 0, none⟩), .int .i64 ti] w fun e w' => e = .returned (.int .i64 (nth r (7 + t))) ∧ w = w' := by
  have c4 := h.c4
  have f7 : ∀ w', (Instr.indexAt 46 rv (.int .i64 7)).run Try.prog w' = .ok (.pointer (some (elt rv 7 1))) w' := h.row.run_index slInts 7 (by have := h.lr; omega)
  have d7 := h.row.cell 7 (by have := h.lr; omega)
  have f8 : ∀ w', (Instr.indexAt 46 rv (.int .i64 8)).run Try.prog w' = .ok (.pointer (some (elt rv 8 1))) w' := h.row.run_index slInts 8 (by have := h.lr; omega)
  have d8 := h.row.cell 8 (by have := h.lr; omega)
  have f9 : ∀ w', (Instr.indexAt 46 rv (.int .i64 9)).run Try.prog w' = .ok (.pointer (some (elt rv 9 1))) w' := h.row.run_index slInts 9 (by have := h.lr; omega)
  have d9 := h.row.cell 9 (by have := h.lr; omega)
  clear h
  rcases ht with ⟨rfl, rfl⟩ | ⟨rfl, rfl⟩ | ⟨rfl, rfl⟩
  all_goals
    go_enter Try.func54, Try.ntmps54
    go_wp2_with fail
    go_ret
    exact ⟨rfl, rfl⟩
theorem jv_q (h : JAt w q f p g fs sz out cd lv rv nv r n) (t : Nat) (ti : Int) (ht : (t = 0 ∧ ti = 0) ∨ (t = 1 ∧ ti = 1) ∨ (t = 2 ∧ ti = 2)) (m : Nat) : Calls Try.prog 54 #[.pointer (some ⟨q, 0, none⟩), .int .i64 ti] (w.drewN m) fun e w' => e = .returned (.int .i64 (nth r (7 + t))) ∧ ∃ k, w' = w.drewN k := (jv_any (h.ext (Ext.drewN w m)) t ti ht).mono fun _ _ h => ⟨h.1, m, h.2.symm⟩
theorem jv_t (h : JAt w q f p g fs sz out cd lv rv nv r n) (ti : Int) (h0 : 0 ≤ ti) (h1 : ti ≤ 2) (m : Nat) : Calls Try.prog 54 #[.pointer (some ⟨q, 0, none⟩), .int .i64 ti] (w.drewN m) fun e w' => e = .returned (.int .i64 (nth r (7 + ti.toNat))) ∧ ∃ k, w' = w.drewN k := jv_q h ti.toNat ti (by omega) m
set_option maxRecDepth 100000 in
set_option maxHeartbeats 4000000 in
theorem jhelps_any (h : JAt w q f p g fs sz out cd lv rv nv r n) : Calls Try.prog 72 #[.pointer (some ⟨q, 0, none⟩)] w fun e w' => e = .returned (.int .i64 (fmul p (nth r 11) (nth r 7))) ∧ ∃ m, w' = w.drewN m := by
  have c0 := h.c0
  have c4 := h.c4
  have HF := Lib.hid h.fld
  have f11 : ∀ w', (Instr.indexAt 46 rv (.int .i64 11)).run Try.prog w' = .ok (.pointer (some (elt rv 11 1))) w' := h.row.run_index slInts 11 (by have := h.lr; omega)
  have d11 := h.row.cell 11 (by have := h.lr; omega)
  have HH := Lib.hid h
  clear h
  go_enter Try.func72, Try.ntmps72
  go_wp2_with fail
  go_quiet ((first | (go_at_call 54; exact jv_q HH.out 0 _ (by simp) _) | (go_at_call 41; exact mul_q HF.out _ _ _)))
  go_wp2_with fail
  go_ret
  exact ⟨rfl, _, rfl⟩
theorem jhelps_q (h : JAt w q f p g fs sz out cd lv rv nv r n) (m : Nat) : Calls Try.prog 72 #[.pointer (some ⟨q, 0, none⟩)] (w.drewN m) fun e w' => e = .returned (.int .i64 (fmul p (nth r 11) (nth r 7))) ∧ ∃ k, w' = w.drewN k := (jhelps_any (h.ext (Ext.drewN w m))).mono fun _ _ h => ⟨h.1, by obtain ⟨k, hk⟩ := h.2; exact ⟨m + k, by rw [hk, drewN_drewN]⟩⟩
end
end Go.Proofs.Ytainhfnanamobaa
