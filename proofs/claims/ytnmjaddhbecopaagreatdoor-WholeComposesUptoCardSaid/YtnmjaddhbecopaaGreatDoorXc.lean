/- Vouchers, the document's side: the word of all rules: contract. -/
import Derived.Test.YtnmjaddhbecopaaGreatDoorXb
namespace Go.Proofs.YtnmjaddhbecopaaGreatDoor
open Go.RowKit Go.Att
theorem compF_snoc {F : Nat → Int} (i : Nat) : ((List.range (i + 1)).map F).map (Value.int .i64) = ((List.range i).map F).map (Value.int .i64) ++ [.int .i64 (F i)] := by simp [List.range_succ]
theorem next_mod {i N : Nat} (_h0 : 0 < N) : Int.tmod ((i : Int) + 8) (N : Int) = (((i + 8) % N : Nat) : Int) ∧ ((i : Int) + 8) % (N : Int) = (((i + 8) % N : Nat) : Int) := by
  have h : ((i : Int) + 8) % (N : Int) = (((i + 8) % N : Nat) : Int) := by norm_cast
  exact ⟨by rw [Int.tmod_eq_emod_of_nonneg (by omega)]; exact h, h⟩
section
variable {w : World} {b : Nat} {p sz out n g : Int} {cd : List In4} {lv : Value} {x y a gg : Int} {K : Nat}
set_option maxRecDepth 100000 in
set_option maxHeartbeats 8000000 in
theorem dcompose_any (h : TAt w b p sz out n g cd lv x y a gg) (hB : FitOk p n cd.length K) (hp2 : p ≤ 2147483647) {vw vz : Value} {Lw : List (List Int)} {zs : List Int} (hw : Rws w vw Lw) (hz : Ints w vz zs) {N : Nat} (hN : N = 2 ^ (K + 3)) (hLw : Lw.length = N) (hzs : zs.length = N) (hr : ∀ i, i < N → (nthL Lw i).length = 20 + cd.length) :
    Calls Tryz.prog 29 #[.pointer (some ⟨b, 0, none⟩), vw, vz] w (Gives w fun u w' => Ints w' u ((List.range N).map (compF p sz out cd x y a g n N (nthL Lw) zs))) := by
  have hbd := hB.bd
  obtain ⟨R, hw⟩ := hw
  have h8 : 8 * n = (N : Int) := by have := hB.nat; rw [hN, Nat.pow_add]; omega
  have hN2 : 32 ≤ N ∧ N ≤ 4096 := by omega
  have H8 := Lib.hid h8; have HV := Lib.hid hw; have HZ := Lib.hid hz; have HR := Lib.hid hr; have H := Lib.hid h; have HB := Lib.hid hB; have HLW := Lib.hid hLw; have HZS := Lib.hid hzs
  clear hw hz hr h hB hN h8 hLw hzs
  obtain ⟨F, hF⟩ : ∃ F, compF p sz out cd x y a g n N (nthL Lw) zs = F := ⟨_, rfl⟩
  have HFF := Lib.hid (show ∀ i, F i = atC p sz out cd x y a (ptAt p g (froot p g (8 * n)) i) (ptAt p 1 (froot p g n) (n.toNat - 1)) n.toNat (nthL Lw i) (nthL Lw ((i + 8) % N)) (nth zs i) (nth zs ((i + 8) % N)) from fun i => by rw [← hF]; rfl)
  rw [hF]
  clear hF
  go_enter Tryz.func29, Tryz.ntmps29
  go_wp2_with fail
  go_loopw [7, 8, 9, 10] (fun x7 x8 _ _ wr => ∃ i : Nat, i ≤ N ∧ x8 = .int .i64 i ∧ wr.ownsRow w.heap.size 3 1 x7 i (((List.range i).map F).map (Value.int .i64)) ∧ Ext w wr) (fun _ x8 _ _ _ => N - (intOf x8).toNat)
  case atStart => exact ⟨0, by omega, rfl, World.ownsRow_nil _ _ _ _, Ext.refl _⟩
  case round =>
    obtain ⟨i, hi, rfl, HO, HX⟩ := hrel
    have c10 : wr.cell? ⟨b, 10, none⟩ = some (.int .i64 (N : Int)) := by rw [← H8.out]; exact (H.out.blk.ext HX).cell 10
    by_cases hin : i < N
    · obtain ⟨htm, hem⟩ := next_mod (i := i) (N := N) (by omega)
      obtain ⟨k, hk, hkN⟩ : ∃ k, (i + 8) % N = k ∧ k < N := ⟨_, rfl, Nat.mod_lt _ (by omega)⟩
      rw [hk] at htm hem
      have HFI := Lib.hid (HFF.out i)
      rw [hk] at HFI
      have hixi := HV.out.run_index (P := Tryz.prog) slRowsK i (by rw [HLW.out]; exact hin)
      have hixk := HV.out.run_index (P := Tryz.prog) slRowsK k (by rw [HLW.out]; exact hkN)
      have hci := (HV.out.ext HX).cell i (by rw [HLW.out]; exact hin)
      have hck := (HV.out.ext HX).cell k (by rw [HLW.out]; exact hkN)
      have hizi := HZ.out.run_index (P := Tryz.prog) slInts i (by rw [HZS.out]; exact hin)
      have hizk := HZ.out.run_index (P := Tryz.prog) slInts k (by rw [HZS.out]; exact hkN)
      have hzi := (HZ.out.ext HX).cell i (by rw [HZS.out]; exact hin)
      have hzk := (HZ.out.ext HX).cell k (by rw [HZS.out]; exact hkN)
      have C := fun (m : Nat) => composed_any (H.out.ext (HX.trans (Ext.drewN wr m))) HB.out hp2 i (by have := H8.out; omega) ((HV.out.row i (by rw [HLW.out]; exact hin)).ext (HX.trans (Ext.drewN wr m))) ((HV.out.row k (by rw [HLW.out]; exact hkN)).ext (HX.trans (Ext.drewN wr m))) (HR.out i hin) (HR.out k hkN) (nth zs i) (nth zs k)
      rw [← HFI.out] at C
      have ST := Lib.hid (compF_snoc (F := F) i)
      generalize nth zs i = z1 at *
      generalize nth zs k = z2 at *
      generalize F i = fi at *
      have HOH := Lib.hid HO; have HXH := Lib.hid HX; have HC := Lib.hid C
      clear hk HO HX C
      go_wp2_with fail
      refine wp_region_quiet_tail 18 (by kernel_rfl) (by kernel_rfl) ?_
      simp only [List.take_succ_cons, List.take_zero, List.drop_succ_cons, List.drop_zero]
      repeat (go_big_quiet_step (fail))
      refine wpQuiet_nil ?_
      rintro _ ⟨m1, rfl⟩
      go_wp2_with (first | (go_at_call 81; refine (HC.out m1).mono ?_; rintro e w2 ⟨rfl, hx2⟩; have hx3 := (HXH.out.trans (Ext.drewN _ m1)).trans hx2; have ho3 := own_ext HOH.out ((Ext.drewN _ m1).trans hx2)) | (at_builtin; refine wpList_app1 rfl _ _ 23 rfl slInts rfl hx3 ho3 rfl _ rfl rfl (by omega) (by omega) ?_; intro v4 w4 HO4 HX4 _))
      go_roundw
      case rel => exact ⟨i + 1, by omega, by go_num, by rw [ST.out]; exact HO4, HX4⟩
      case measure => simp [intOf]; omega
    · obtain rfl : i = N := by omega
      go_wp2_with fail
      go_ret
      exact .mk _ rfl HX (Ints.of_own HO)
end
end Go.Proofs.YtnmjaddhbecopaaGreatDoor
