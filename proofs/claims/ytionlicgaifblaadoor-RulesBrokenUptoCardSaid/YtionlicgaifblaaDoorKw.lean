/- attestsame.Copied: rows of the callee's own that read as the given ones. -/
import Derived.Test.YtionlicgaifblaaDoorKj
import Derived.Test.YtionlicgaifblaaDoorLs
import Derived.Test.YtionlicgaifblaaDoorY2
namespace Go.Proofs.YtionlicgaifblaaDoor
open Go.RowKit Go.Att
set_option maxRecDepth 100000 in
set_option maxHeartbeats 4000000 in
theorem copiedK_any (v : Value) (L : List (List Int)) (w : World) (hv : Rws w v L) (hs : L.length ≤ 1048576) (hrs : ∀ i, i < L.length → (nthL L i).length ≤ 1048576) :
    Calls Tryd.prog 8 #[v] w (Gives w fun u w' => Rws w' u L) := by
  obtain ⟨R, hv⟩ := hv
  have hll := hv.run_len (P := Tryd.prog) slRowsK
  have HV := Lib.hid hv; have HRS := Lib.hid hrs
  clear hv hrs
  go_enter Tryd.func8, Tryd.ntmps8
  go_wp2_with fail
  go_loopw [3, 4] (fun x3 x4 wr => ∃ (i : Nat) (E : Nat → List Value), i ≤ L.length ∧ x4 = .int .i64 i ∧ Hid (Lst rgInts w.heap.size wr 64 1 x3 (L.take i) E) ∧ Hid (Ext w wr)) (fun _ x4 _ => L.length - (intOf x4).toNat)
  case atStart => exact ⟨0, fun _ => [], Nat.zero_le _, rfl, Lib.hid (Lst.nil _ _ _ _ (World.ownsRow_nil _ _ _ _)), Lib.hid (Ext.refl _)⟩
  case round =>
    obtain ⟨i, E, hi, rfl, HLI, HX⟩ := hrel
    by_cases hil : i < L.length
    · have hix := HV.out.run_index (P := Tryd.prog) slRowsK i hil
      have hc := (HV.out.ext HX.out).cell i hil
      have HRI := Lib.hid ((HV.out.row i hil).ext HX.out)
      have hrl := HRS.out i hil
      have HTK := Lib.hid (show L.take (i + 1) = L.take i ++ [nthL L i] by rw [List.take_succ_eq_append_getElem hil, ← nthL_eq hil])
      have HTL := Lib.hid (show (L.take i).length = i by rw [List.length_take]; omega)
      have hc2 := (Ext.alloc wr (Obj.cells #[] 3)).cell hc
      go_wp2_with (first | (at_builtin; refine wpList_appSl rfl _ _ 64 rfl slIntY rfl (Ext.alloc wr (Obj.cells #[] 3)) (World.ownsRow_made wr #[] 0 (Nat.le_refl _) (Nat.zero_le _) rfl) rfl (HRI.out.ext (Ext.alloc wr _)) (by intro u hu; simp only [List.mem_map] at hu; obtain ⟨_, _, rfl⟩ := hu; rfl) rfl (by omega) (by omega) ?_; intro v1 w1 HO1 HX1 _; simp only [Nat.zero_add, List.nil_append] at HO1; obtain ⟨au, cu, rfl⟩ := own_shape HO1; have HO1H := Lib.hid HO1; have HX1H := Lib.hid HX1; have HO := own_ext HLI.out.own HX1; rw [HTL.out] at HO; have hsz : w.heap.size ≤ w1.heap.size := Nat.le_trans HX.out.size HX1.size; clear HO1 HX1 hc hc2 hix) | (at_builtin; refine wpList_appNw rfl _ _ 25 rfl slRowY rfl hsz HO rfl #[.slice au (nthL L i).length cu] rfl (by intro u hu; simp at hu; subst hu; rfl) rfl (by omega) (by omega) ?_; intro v4 w4 HO4 HG4 HM4))
      go_roundw
      case rel =>
        have HS : rgInts.sat wr.heap.size w1.heap.size w1 (nthL L i) [.slice au (nthL L i).length cu] := ⟨_, rfl, Ints.of_own HO1H.out, fun k hk => HO1H.out.lt k hk⟩
        have hown : ∀ k, _ → k < wr.heap.size ∨ w1.heap.size ≤ k := fun k hk => .inl (HLI.out.own.lt k hk).2
        exact ⟨i + 1, _, by omega, by go_num, Lib.hid (by rw [HTK.out]; exact (HLI.out.ext HX1H.out).push HX.out.size (Nat.le_refl _) hown HS (by rw [HTL.out]; exact HO4) HG4 HM4), Lib.hid (Ext.own_grown (HX.out.trans HX1H.out) HO HG4)⟩
      case measure => simp [intOf]; omega
    · obtain rfl : i = L.length := by omega
      go_wp2_with fail
      go_ret
      exact .mk _ rfl HX.out (by have h := HLI.out; rw [List.take_length] at h; obtain ⟨R, hR, _⟩ := h.rws; exact ⟨R, hR⟩)
end Go.Proofs.YtionlicgaifblaaDoor
