/- Sums of rows by powers, the program's side: contracts. -/
import Derived.Test.YthlnjfnlhgnblaaDoorHc
import Derived.Test.YthlnjfnlhgnblaaDoorU3
namespace Go.Att
open Go.RowKit
/-- The sum of the first m rows at a place, each times a power. -/
def mixS (p r : Int) (L : List (List Int)) : Nat → Nat → Int
  | 0, _ => 0
  | m + 1, k => fadd p (mixS p r L m k) (fmul p (fpow p r m) (nth (nthL L m) k))
def mixL (p r : Int) (L : List (List Int)) : List Int := (List.range (nthL L 0).length).map fun k => mixS p r L L.length k
/-- .. where the first k places of row m are in. -/
def mixP (p r : Int) (L : List (List Int)) (n m k : Nat) : List Int := (List.range n).map fun j => if j < k then mixS p r L (m + 1) j else mixS p r L m j
theorem mixP_length (p r : Int) (L : List (List Int)) (n m k : Nat) : (mixP p r L n m k).length = n := by simp [mixP]
theorem mixP_zero (p r : Int) (L : List (List Int)) (n m : Nat) : mixP p r L n (m + 1) 0 = mixP p r L n m n := by
  unfold mixP
  refine List.map_congr_left fun j hj => ?_
  have := List.mem_range.1 hj
  simp [this]
theorem mixP_nth (p r : Int) (L : List (List Int)) (n m k : Nat) (h : k < n) : nth (mixP p r L n m k) k = mixS p r L m k := by
  unfold mixP; rw [nth_map_range _ _ _ h]; simp
theorem mixP_set (p r : Int) (L : List (List Int)) (n m k : Nat) (h : k < n) : ((mixP p r L n m k).map (Value.int .i64)).take (k * 1) ++ (Value.cells (.int .i64 (fadd p (mixS p r L m k) (fmul p (fpow p r m) (nth (nthL L m) k))))).toList ++ ((mixP p r L n m k).map (Value.int .i64)).drop (k * 1 + 1) = (mixP p r L n m (k + 1)).map (Value.int .i64) := by
  apply List.ext_getElem?
  intro j
  have hl : ((mixP p r L n m k).map (Value.int .i64)).length = n := by simp [mixP]
  have hc : (Value.cells (.int .i64 (fadd p (mixS p r L m k) (fmul p (fpow p r m) (nth (nthL L m) k))))).toList = [Value.int .i64 (mixS p r L (m + 1) k)] := by simp [Value.cells, mixS]
  rw [hc, Nat.mul_one]
  by_cases h1 : j < k
  · rw [List.append_assoc, List.getElem?_append_left (by rw [List.length_take, hl]; omega), List.getElem?_take, if_pos h1]
    simp [mixP, show j < n by omega, h1, show j < k + 1 by omega]
  · by_cases h2 : j = k
    · subst h2
      rw [List.append_assoc, List.getElem?_append_right (by rw [List.length_take, hl]; omega), List.length_take, hl, show min j n = j by omega, Nat.sub_self]
      simp [mixP, h]
    · rw [List.append_assoc, List.getElem?_append_right (by rw [List.length_take, hl]; omega), List.length_take, hl, show min k n = k by omega]
      obtain ⟨d, rfl⟩ : ∃ d, j = k + 1 + d := ⟨j - k - 1, by omega⟩
      rw [show k + 1 + d - k = d + 1 by omega, List.singleton_append, List.getElem?_cons_succ, List.getElem?_drop]
      by_cases h3 : k + 1 + d < n
      · simp [mixP, h3, show ¬ k + 1 + d < k by omega, show ¬ k + 1 + d < k + 1 by omega]
      · simp [mixP, h3]
end Go.Att
namespace Go.Proofs.YthlnjfnlhgnblaaDoor
open Go.RowKit Go.Att

theorem mix1_any {w : World} {v vr : Value} {l : List Int} {L : List (List Int)} {R : Nat → Value} {c : Nat} (hv : Ints w v l) (hr : RwsAt w vr L R) (h0 : 0 < L.length) (hc : w.cell? ⟨c, 0, none⟩ = some vr) :
    Calls Tryd.prog 69 #[v, .pointer (some ⟨c, 0, none⟩)] w (Rd w (.bool ((l.length : Int) != (nthL L 0).length))) := by
  have hl := hv.run_len (P := Tryd.prog) slInts
  have hix := hr.run_index (P := Tryd.prog) slRows 0 h0
  have hcr := hr.cell 0 h0
  have hln := (hr.row 0 h0).run_len (P := Tryd.prog) slInts
  rw [show ((0 : Nat) : Int) = 0 from rfl] at hix
  clear hv hr
  go_enter Tryd.func69, Tryd.ntmps69
  go_wp2_with fail
  go_ret
  exact .same rfl

set_option maxRecDepth 100000 in
set_option maxHeartbeats 1000000 in
theorem mindex_any {w : World} {v vr : Value} {L L0 : List (List Int)} {R R0 : Nat → Value} {c : Nat} (hv : RwsAt w v L R) (hr : RwsAt w vr L0 R0) (h0 : 0 < L0.length) (hc : w.cell? ⟨c, 0, none⟩ = some vr) :
    Calls Tryd.prog 105 #[v, .func (Fn.func 69) #[] #[.pointer (some ⟨c, 0, none⟩)]] w (RdI w fun r => decide (0 ≤ r) = !fitB ((nthL L0 0).length : Int) L) := by
  have hl := hv.run_len (P := Tryd.prog) slRows
  have hlen := hv.len
  have HV := Lib.hid hv; clear hv
  have HR := Lib.hid hr; clear hr
  have HC := Lib.hid hc; clear hc
  obtain ⟨n, hn⟩ : ∃ n : Int, ((nthL L0 0).length : Int) = n := ⟨_, rfl⟩
  rw [hn]
  have HN := Lib.hid hn; clear hn
  go_enter Tryd.func105, Tryd.ntmps105
  go_wp2
  go_loopw [5, 8] (fun _ x8 wr => ∃ i m : Nat, i ≤ L.length ∧ x8 = .int .i64 i ∧ Hid (∀ j, j < i → ((nthL L j).length : Int) = n) ∧ wr = w.drewN m) (fun _ x8 _ => L.length - (intOf x8).toNat)
  case atStart => exact ⟨0, 0, Nat.zero_le _, rfl, Lib.hid (fun j hj => by omega), rfl⟩
  case round =>
    obtain ⟨i, m, hi, rfl, H, rfl⟩ := hrel
    by_cases hlt : i < L.length
    · have hix := HV.out.run_index (P := Tryd.prog) slRows i hlt
      have hcell := HV.out.cell i hlt
      by_cases he : ((nthL L i).length : Int) = n
      · have hb : (((nthL L i).length : Int) != n) = false := by rw [bne_eq_false_iff_eq]; exact he
        have HE := Lib.hid he; clear he
        go_wp2_with (go_at_call 69; refine (mix1_any ((HV.out.row i hlt).drewN m) (HR.out.drewN m) h0 ((Ext.drewN w m).cell HC.out)).mono ?_; rw [HN.out]; rintro e w' ⟨rfl, m2, rfl⟩)
        go_roundw
        case rel => exact ⟨i + 1, _, by omega, by go_num, Lib.hid (fun j hj => by
            rcases Nat.lt_or_eq_of_le (show j ≤ i by omega) with h | rfl
            · exact H.out j h
            · exact HE.out), rfl⟩
        case measure => simp [intOf]; omega
      · have hb : (((nthL L i).length : Int) != n) = true := by rw [bne_iff_ne]; exact he
        have HE := Lib.hid he; clear he
        go_wp2_with (go_at_call 69; refine (mix1_any ((HV.out.row i hlt).drewN m) (HR.out.drewN m) h0 ((Ext.drewN w m).cell HC.out)).mono ?_; rw [HN.out]; rintro e w' ⟨rfl, m2, rfl⟩)
        go_ret
        exact ⟨i, by rw [fitB_not hlt HE.out]; simp, rfl, _, rfl⟩
    · obtain rfl : i = L.length := by omega
      go_wp2_with fail
      go_ret
      exact ⟨-1, by rw [fitB_of H.out]; rfl, rfl, _, rfl⟩

set_option maxRecDepth 100000 in
theorem mcontains_any {w : World} {v vr : Value} {L L0 : List (List Int)} {R R0 : Nat → Value} {c : Nat} (hv : RwsAt w v L R) (hr : RwsAt w vr L0 R0) (h0 : 0 < L0.length) (hc : w.cell? ⟨c, 0, none⟩ = some vr) :
    Calls Tryd.prog 68 #[v, .func (Fn.func 69) #[] #[.pointer (some ⟨c, 0, none⟩)]] w (Rd w (.bool (!fitB ((nthL L0 0).length : Int) L))) := by
  have HV := Lib.hid hv; clear hv
  have HR := Lib.hid hr; clear hr
  have HC := Lib.hid hc; clear hc
  go_enter Tryd.func68, Tryd.ntmps68
  go_wp2_with (go_at_call 105; refine (mindex_any HV.out HR.out h0 HC.out).mono ?_; rintro e w' ⟨r, hr, rfl, m, rfl⟩; have HRR := Lib.hid hr; clear hr)
  go_ret
  exact .more _ (ret_bool HRR.out)

theorem mix2_any {w : World} {f : Value} {p g : Int} {fs : List Int} (hf : Fld w f p g fs) (i : Nat) (r : Int) (c1 c2 : Nat) (h1 : w.cell? ⟨c1, 0, none⟩ = some f) (h2 : w.cell? ⟨c2, 0, none⟩ = some (.int .i64 r)) (hi : i ≤ 9223372036854775807) :
    Calls Tryd.prog 71 #[.int .i64 i, .pointer (some ⟨c1, 0, none⟩), .pointer (some ⟨c2, 0, none⟩)] w (Rd w (.int .i64 (fpow p r i))) := by
  have C := Lib.hid hf; clear hf
  go_enter Tryd.func71, Tryd.ntmps71
  go_wp2_with (go_at_call 72; refine (pow_any C.out r i (by omega) (by omega)).mono ?_; rw [Int.toNat_natCast]; rintro e w' ⟨rfl, m, rfl⟩)
  go_ret
  exact .more _ rfl
end Go.Proofs.YthlnjfnlhgnblaaDoor
