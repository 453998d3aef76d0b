/- RulesBroken: the document's side: a rule: the sixth, and those of the first and the last row. -/
import Derived.Test.YtionlicgaifblaaDoorKd
namespace Go.Proofs.YtionlicgaifblaaDoor
open Go.RowKit Go.Att
section
variable {w : World} {q : Nat} {p sz out : Int} {cd : List In4} {lv rv nv : Value} {r n : List Int}
set_option maxRecDepth 100000 in
set_option maxHeartbeats 4000000 in
theorem wrule_5 (h : WAt w q p sz out cd lv rv nv r n) (hs : cd.length ≤ 1048576) (_hl : 1 ≤ cd.length) (x : Int) (hx : x = cd.length + 5) : Calls Tryd.prog 31 #[.pointer (some ⟨q, 0, none⟩), .int .i64 x] w fun e w' => e = .returned (.int .i64 (tailD p sz out cd r n 5)) ∧ Ext w w' := by
  have hll := h.code.run_len (P := Tryd.prog) slIns
  have c2 := h.c2
  have c4 := h.c4
  have C := wsum_any h hs 4 4 (by simp)
  clear h
  have hy : x - (cd.length : Int) = 5 := by omega
  go_enter Tryd.func31, Tryd.ntmps31
  go_wp2_with fail
  rw [show (cd.length : Int) + 5 - cd.length - 1 = 4 by omega]
  refine C.mono ?_
  rintro e w1 ⟨rfl, hx1⟩
  go_wp2_with fail
  go_ret
  exact ⟨rfl, hx1⟩
set_option maxRecDepth 100000 in
set_option maxHeartbeats 4000000 in
theorem wrule_18 (h : WAt w q p sz out cd lv rv nv r n) (hs : cd.length ≤ 1048576) (hl : 1 ≤ cd.length) (x : Int) (hx : x = cd.length + 18) : Calls Tryd.prog 31 #[.pointer (some ⟨q, 0, none⟩), .int .i64 x] w fun e w' => e = .returned (.int .i64 (tailD p sz out cd r n 18)) ∧ Ext w w' := by
  have hll := h.code.run_len (P := Tryd.prog) slIns
  have c2 := h.c2
  have c4 := h.c4
  have C := wedge_any h hs hl 18 18 (by simp)
  clear h
  have hy : x - (cd.length : Int) = 18 := by omega
  go_enter Tryd.func31, Tryd.ntmps31
  go_wp2_with fail
  rw [show (cd.length : Int) + 18 - cd.length = 18 by omega]
  refine C.mono ?_
  rintro e w1 ⟨rfl, hx1⟩
  go_wp2_with fail
  go_ret
  exact ⟨rfl, hx1⟩
set_option maxRecDepth 100000 in
set_option maxHeartbeats 4000000 in
theorem wrule_19 (h : WAt w q p sz out cd lv rv nv r n) (hs : cd.length ≤ 1048576) (hl : 1 ≤ cd.length) (x : Int) (hx : x = cd.length + 19) : Calls Tryd.prog 31 #[.pointer (some ⟨q, 0, none⟩), .int .i64 x] w fun e w' => e = .returned (.int .i64 (tailD p sz out cd r n 19)) ∧ Ext w w' := by
  have hll := h.code.run_len (P := Tryd.prog) slIns
  have c2 := h.c2
  have c4 := h.c4
  have C := wedge_any h hs hl 19 19 (by simp)
  clear h
  have hy : x - (cd.length : Int) = 19 := by omega
  go_enter Tryd.func31, Tryd.ntmps31
  go_wp2_with fail
  rw [show (cd.length : Int) + 19 - cd.length = 19 by omega]
  refine C.mono ?_
  rintro e w1 ⟨rfl, hx1⟩
  go_wp2_with fail
  go_ret
  exact ⟨rfl, hx1⟩
set_option maxRecDepth 100000 in
set_option maxHeartbeats 4000000 in
theorem wrule_20 (h : WAt w q p sz out cd lv rv nv r n) (hs : cd.length ≤ 1048576) (hl : 1 ≤ cd.length) (x : Int) (hx : x = cd.length + 20) : Calls Tryd.prog 31 #[.pointer (some ⟨q, 0, none⟩), .int .i64 x] w fun e w' => e = .returned (.int .i64 (tailD p sz out cd r n 20)) ∧ Ext w w' := by
  have hll := h.code.run_len (P := Tryd.prog) slIns
  have c2 := h.c2
  have c4 := h.c4
  have C := wedge_any h hs hl 20 20 (by simp)
  clear h
  have hy : x - (cd.length : Int) = 20 := by omega
  go_enter Tryd.func31, Tryd.ntmps31
  go_wp2_with fail
  rw [show (cd.length : Int) + 20 - cd.length = 20 by omega]
  refine C.mono ?_
  rintro e w1 ⟨rfl, hx1⟩
  go_wp2_with fail
  go_ret
  exact ⟨rfl, hx1⟩
set_option maxRecDepth 100000 in
set_option maxHeartbeats 4000000 in
theorem wrule_21 (h : WAt w q p sz out cd lv rv nv r n) (hs : cd.length ≤ 1048576) (hl : 1 ≤ cd.length) (x : Int) (hx : x = cd.length + 21) : Calls Tryd.prog 31 #[.pointer (some ⟨q, 0, none⟩), .int .i64 x] w fun e w' => e = .returned (.int .i64 (tailD p sz out cd r n 21)) ∧ Ext w w' := by
  have hll := h.code.run_len (P := Tryd.prog) slIns
  have c2 := h.c2
  have c4 := h.c4
  have C := wedge_any h hs hl 21 21 (by simp)
  clear h
  have hy : x - (cd.length : Int) = 21 := by omega
  go_enter Tryd.func31, Tryd.ntmps31
  go_wp2_with fail
  rw [show (cd.length : Int) + 21 - cd.length = 21 by omega]
  refine C.mono ?_
  rintro e w1 ⟨rfl, hx1⟩
  go_wp2_with fail
  go_ret
  exact ⟨rfl, hx1⟩
set_option maxRecDepth 100000 in
set_option maxHeartbeats 4000000 in
theorem wrule_22 (h : WAt w q p sz out cd lv rv nv r n) (hs : cd.length ≤ 1048576) (hl : 1 ≤ cd.length) (x : Int) (hx : x = cd.length + 22) : Calls Tryd.prog 31 #[.pointer (some ⟨q, 0, none⟩), .int .i64 x] w fun e w' => e = .returned (.int .i64 (tailD p sz out cd r n 22)) ∧ Ext w w' := by
  have hll := h.code.run_len (P := Tryd.prog) slIns
  have c2 := h.c2
  have c4 := h.c4
  have C := wedge_any h hs hl 22 22 (by simp)
  clear h
  have hy : x - (cd.length : Int) = 22 := by omega
  go_enter Tryd.func31, Tryd.ntmps31
  go_wp2_with fail
  rw [show (cd.length : Int) + 22 - cd.length = 22 by omega]
  refine C.mono ?_
  rintro e w1 ⟨rfl, hx1⟩
  go_wp2_with fail
  go_ret
  exact ⟨rfl, hx1⟩
set_option maxRecDepth 100000 in
set_option maxHeartbeats 4000000 in
theorem wrule_23 (h : WAt w q p sz out cd lv rv nv r n) (hs : cd.length ≤ 1048576) (hl : 1 ≤ cd.length) (x : Int) (hx : x = cd.length + 23) : Calls Tryd.prog 31 #[.pointer (some ⟨q, 0, none⟩), .int .i64 x] w fun e w' => e = .returned (.int .i64 (tailD p sz out cd r n 23)) ∧ Ext w w' := by
  have hll := h.code.run_len (P := Tryd.prog) slIns
  have c2 := h.c2
  have c4 := h.c4
  have C := wedge_any h hs hl 23 23 (by simp)
  clear h
  have hy : x - (cd.length : Int) = 23 := by omega
  go_enter Tryd.func31, Tryd.ntmps31
  go_wp2_with fail
  rw [show (cd.length : Int) + 23 - cd.length = 23 by omega]
  refine C.mono ?_
  rintro e w1 ⟨rfl, hx1⟩
  go_wp2_with fail
  go_ret
  exact ⟨rfl, hx1⟩
set_option maxRecDepth 100000 in
set_option maxHeartbeats 4000000 in
theorem wrule_24 (h : WAt w q p sz out cd lv rv nv r n) (hs : cd.length ≤ 1048576) (hl : 1 ≤ cd.length) (x : Int) (hx : x = cd.length + 24) : Calls Tryd.prog 31 #[.pointer (some ⟨q, 0, none⟩), .int .i64 x] w fun e w' => e = .returned (.int .i64 (tailD p sz out cd r n 24)) ∧ Ext w w' := by
  have hll := h.code.run_len (P := Tryd.prog) slIns
  have c2 := h.c2
  have c4 := h.c4
  have C := wedge_any h hs hl 24 24 (by simp)
  clear h
  have hy : x - (cd.length : Int) = 24 := by omega
  go_enter Tryd.func31, Tryd.ntmps31
  go_wp2_with fail
  rw [show (cd.length : Int) + 24 - cd.length = 24 by omega]
  refine C.mono ?_
  rintro e w1 ⟨rfl, hx1⟩
  go_wp2_with fail
  go_ret
  exact ⟨rfl, hx1⟩
set_option maxRecDepth 100000 in
set_option maxHeartbeats 4000000 in
theorem wrule_25 (h : WAt w q p sz out cd lv rv nv r n) (hs : cd.length ≤ 1048576) (hl : 1 ≤ cd.length) (x : Int) (hx : x = cd.length + 25) : Calls Tryd.prog 31 #[.pointer (some ⟨q, 0, none⟩), .int .i64 x] w fun e w' => e = .returned (.int .i64 (tailD p sz out cd r n 25)) ∧ Ext w w' := by
  have hll := h.code.run_len (P := Tryd.prog) slIns
  have c2 := h.c2
  have c4 := h.c4
  have C := wedge_any h hs hl 25 25 (by simp)
  clear h
  have hy : x - (cd.length : Int) = 25 := by omega
  go_enter Tryd.func31, Tryd.ntmps31
  go_wp2_with fail
  rw [show (cd.length : Int) + 25 - cd.length = 25 by omega]
  refine C.mono ?_
  rintro e w1 ⟨rfl, hx1⟩
  go_wp2_with fail
  go_ret
  exact ⟨rfl, hx1⟩
end
end Go.Proofs.YtionlicgaifblaaDoor
