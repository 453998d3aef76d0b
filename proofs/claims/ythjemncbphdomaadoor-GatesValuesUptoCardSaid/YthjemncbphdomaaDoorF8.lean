/- Lists as elements; whether all of a list are unlike: contracts of the document's side. -/
import Derived.Test.YthjemncbphdomaaDoorF7
import Derived.Test.YthjemncbphdomaaDoorVoc5
namespace Go.Att
/-- All unlike, as elements. -/
def Unl (p : Int) (l : List Int) : Prop := (l.map (fof p)).Nodup
noncomputable def unlB (p : Int) (l : List Int) : Bool := @decide (Unl p l) (Classical.propDecidable _)
theorem unlB_true {p : Int} {l : List Int} (h : Unl p l) : unlB p l = true := @decide_eq_true _ (Classical.propDecidable _) h
theorem unlB_false {p : Int} {l : List Int} (h : ¬ Unl p l) : unlB p l = false := @decide_eq_false _ (Classical.propDecidable _) h
theorem unlB_iff {p : Int} {l : List Int} : unlB p l = true ↔ Unl p l := ⟨fun h => @of_decide_eq_true _ (Classical.propDecidable _) h, unlB_true⟩
theorem nodup_of_nth {l : List Int} (h : ∀ i, i < l.length → ∀ k, k < i → nth l i ≠ nth l k) : l.Nodup := by
  rw [List.Nodup, List.pairwise_iff_getElem]
  intro i j hi hj hij e
  exact h j hj i hij (by rw [nth_eq hj, nth_eq hi, e])
theorem not_nodup_of_nth {l : List Int} {i k : Nat} (hi : i < l.length) (hk : k < i) (e : nth l i = nth l k) : ¬ l.Nodup := by
  intro h
  rw [List.Nodup, List.pairwise_iff_getElem] at h
  exact h k i (by omega) hi hk (by rw [← nth_eq hi, ← nth_eq (show k < l.length by omega), e])
theorem take_snoc_map {l : List Int} {i : Nat} (g : Int → Int) (h : i < l.length) : (l.take (i + 1)).map g = (l.take i).map g ++ [g (nth l i)] := by
  rw [List.take_succ_eq_append_getElem h, List.map_append, nth_eq h]; rfl
end Go.Att
namespace Go.Proofs.YthjemncbphdomaaDoor
open Go.RowKit Go.Att

set_option maxHeartbeats 1000000 in
theorem rall_any (p : Int) (v : Value) (l : List Int) (w : World) (hv : Ints w v l) (hp : 2 ≤ p) (hp2 : p ≤ 2147483647) (hs : l.length ≤ 4294967295) :
    Calls Tryd.prog 64 #[.int .i64 p, v] w (Gives w fun v' w' => Ints w' v' (l.map (fof p)) ∧ NewIn w v' ∧ OldIn w' v') := by
  have hl := hv.run_len (P := Tryd.prog) slInts
  have HV := Lib.hid hv; clear hv
  go_enter Tryd.func64, Tryd.ntmps64
  go_wp2
  go_loopw [5, 6] (fun x5 x6 wr => ∃ i : Nat, x6 = .int .i64 i ∧ i ≤ l.length ∧ wr.ownsRow w.heap.size 3 1 x5 i (((l.take i).map (fof p)).map (Value.int .i64)) ∧ Ext w wr) (fun _ x6 _ => l.length - (intOf x6).toNat)
  case atStart => exact ⟨0, rfl, Nat.zero_le _, World.ownsRow_nil _ _ _ _, Ext.refl _⟩
  case round =>
    obtain ⟨i, rfl, hi1, HO, HX⟩ := hrel
    by_cases hlt : i < l.length
    · have hix := HV.out.run_index (P := Tryd.prog) slInts i hlt
      have hcell := (HV.out.ext HX).cell i hlt
      go_wp2_with (first | (go_at_call 93; refine (rof_any _ _ _ hp hp2).mono ?_; rintro e w' ⟨rfl, rfl⟩) | (at_builtin; refine wpList_app1 rfl _ _ 23 rfl slInts rfl HX HO rfl _ rfl rfl (by omega) (by omega) ?_; intro v' w1 HO' HX' _))
      go_roundw
      case rel => exact ⟨i + 1, by go_num, by omega, by rw [take_snoc_map _ hlt]; simpa using HO', HX'⟩
      case measure => simp [intOf]; omega
    · obtain rfl : i = l.length := by omega
      go_wp2_with fail
      go_ret
      exact .mk _ rfl HX ⟨Ints.of_own (by rw [List.take_length] at HO; exact HO), NewIn.of_own HO, OldIn.of_own HO⟩

set_option maxHeartbeats 1000000 in
theorem unlike_any (p : Int) (v : Value) (l : List Int) (w : World) (hv : Ints w v l) (hp : 2 ≤ p) (hp2 : p ≤ 2147483647) (hs : l.length ≤ 4294967295) :
    Calls Tryd.prog 18 #[.int .i64 p, v] w fun e w' => e = .returned (.bool (unlB p l)) ∧ Ext w w' := by
  have HV := Lib.hid hv; clear hv
  go_enter Tryd.func18, Tryd.ntmps18
  go_wp2_with (go_at_call 64; refine (rall_any p v l _ HV.out hp hp2 hs).mono ?_; rintro e w1 ⟨v1, rfl, hx, hv1, -, -⟩)
  generalize hL : l.map (fof p) = L at hv1
  have hlen : L.length = l.length := by rw [← hL]; simp
  have hL' : Unl p l ↔ L.Nodup := by unfold Unl; rw [hL]
  have HL := Lib.hid hL'; clear hL' hL
  have hl := hv1.run_len (P := Tryd.prog) slInts
  have HV1 := Lib.hid hv1; clear hv1
  have hln : L.length ≤ 4294967295 := by omega
  clear hlen
  go_loopw [6] (fun x6 wr => ∃ i m : Nat, x6 = .int .i64 i ∧ i ≤ L.length ∧ Hid (∀ j, j < i → ∀ k, k < j → nth L j ≠ nth L k) ∧ wr = w1.drewN m) (fun x6 _ => L.length - (intOf x6).toNat)
  case atStart => exact ⟨0, 0, rfl, Nat.zero_le _, Lib.hid (fun j hj => by omega), rfl⟩
  case round =>
    obtain ⟨i, m, rfl, hi1, H, rfl⟩ := hrel
    by_cases hlt : i < L.length
    · have hix := HV1.out.run_index (P := Tryd.prog) slInts i hlt
      have hcell := HV1.out.cell i hlt
      go_wp2
      go_loopw [7] (fun x7 wr => ∃ k m : Nat, x7 = .int .i64 k ∧ k ≤ i ∧ Hid (∀ j, j < k → nth L i ≠ nth L j) ∧ wr = w1.drewN m) (fun x7 _ => i - (intOf x7).toNat)
      case atStart => exact ⟨0, m, rfl, Nat.zero_le _, Lib.hid (fun j hj => by omega), rfl⟩
      case round =>
        obtain ⟨k, m2, rfl, hk1, H2, rfl⟩ := hrel
        by_cases hk : k < i
        · have hik := HV1.out.run_index (P := Tryd.prog) slInts k (by omega)
          have hck := HV1.out.cell k (by omega)
          by_cases he : nth L i = nth L k
          · have hb : (nth L i == nth L k) = true := by rw [beq_iff_eq]; exact he
            have HB := Lib.hid (unlB_false (p := p) (l := l) (fun h => not_nodup_of_nth hlt hk he (HL.out.1 h))); clear he
            go_wp2
            go_quiet (fail)
            go_wp2
            go_ret
            exact ⟨ret_bool HB.out.symm, (hx.trans (Ext.drewN _ _)).trans (Ext.drewN _ _)⟩
          · have hb : (nth L i == nth L k) = false := by rw [beq_eq_false_iff_ne]; exact he
            have H3 := Lib.hid he; clear he
            go_wp2
            go_quiet (fail)
            go_wp2
            go_roundw
            case rel => exact ⟨k + 1, _, by go_num, by omega, Lib.hid (fun j hj => by
              rcases Nat.lt_or_eq_of_le (show j ≤ k by omega) with h | rfl
              · exact H2.out j h
              · exact H3.out), rfl⟩
            case measure => simp [intOf]; omega
        · obtain rfl : k = i := by omega
          go_wp2
          go_roundw
          case rel => exact ⟨k + 1, _, by go_num, by omega, Lib.hid (fun j hj => by
            rcases Nat.lt_or_eq_of_le (show j ≤ k by omega) with h | rfl
            · exact H.out j h
            · exact H2.out), rfl⟩
          case measure => simp [intOf]; omega
    · obtain rfl : i = L.length := by omega
      have HB := Lib.hid (unlB_true (p := p) (l := l) (HL.out.2 (nodup_of_nth H.out)))
      go_wp2
      go_ret
      exact ⟨ret_bool HB.out.symm, hx.trans (Ext.drewN _ _)⟩
end Go.Proofs.YthjemncbphdomaaDoor
