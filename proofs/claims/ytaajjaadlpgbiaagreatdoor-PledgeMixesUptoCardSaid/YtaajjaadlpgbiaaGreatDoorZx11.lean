/- One word of several, the program's side: contract. Sums of rows by powers, the program's side: contracts. Words that are no codewords show: plain laws. -/
import Derived.Test.YtaajjaadlpgbiaaGreatDoorHb
import Derived.Test.YtaajjaadlpgbiaaGreatDoorZx12
section
/-! One word of several, the program's side: contract. -/
namespace Go.Att
open Go.RowKit
/-- Does no word differ in length from n? -/
def fitB (n : Int) (L : List (List Int)) : Bool := L.all fun l => (l.length : Int) == n
theorem fitB_nth {n : Int} {L : List (List Int)} (h : fitB n L = true) {i : Nat} (hi : i < L.length) : ((nthL L i).length : Int) = n := by
  rw [nthL_eq hi]
  have := List.all_eq_true.1 h L[i] (List.getElem_mem hi)
  simpa using this
theorem fitB_not {n : Int} {L : List (List Int)} {i : Nat} (hi : i < L.length) (h : ((nthL L i).length : Int) ≠ n) : fitB n L = false := by
  rw [Bool.eq_false_iff]
  intro hc
  exact h (fitB_nth hc hi)
theorem fitB_of {n : Int} {L : List (List Int)} (h : ∀ i, i < L.length → ((nthL L i).length : Int) = n) : fitB n L = true := by
  refine List.all_eq_true.2 fun l hl => ?_
  obtain ⟨i, hi, rfl⟩ := List.getElem_of_mem hl
  have := h i hi
  rw [nthL_eq hi] at this
  simpa using this
/-- The numbers at a place of all words. -/
def col (L : List (List Int)) (i : Nat) : List Int := L.map fun l => nth l i
theorem col_length (L : List (List Int)) (i : Nat) : (col L i).length = L.length := by simp [col]
theorem col_step {L : List (List Int)} {j : Nat} (i : Nat) (h : j < L.length) : (col (L.take (j + 1)) i).map (Value.int .i64) = (col (L.take j) i).map (Value.int .i64) ++ [.int .i64 (nth (nthL L j) i)] := by
  rw [List.take_succ_eq_append_getElem h, ← nthL_eq h]; simp [col]
def batchAt (p n sh r g : Int) (first : List Int) (L : List (List Int)) (i : Nat) : Int := batched p (nth first i) g (ptAt p sh r i ^ (3 * n / 8).toNat) (col L i)
def batchL (p n sh r g : Int) (first : List Int) (L : List (List Int)) (m : Nat) : List Int := (List.range m).map (batchAt p n sh r g first L)
theorem batchL_length (p n sh r g : Int) (first : List Int) (L : List (List Int)) (m : Nat) : (batchL p n sh r g first L m).length = m := by simp [batchL]
theorem batchL_nth (p n sh r g : Int) (first : List Int) (L : List (List Int)) {m i : Nat} (h : i < m) : nth (batchL p n sh r g first L m) i = batchAt p n sh r g first L i := by rw [nth_eq (by rw [batchL_length]; exact h)]; simp [batchL]
theorem batchL_succ (p n sh r g : Int) (first : List Int) (L : List (List Int)) (m : Nat) : (batchL p n sh r g first L (m + 1)).map (Value.int .i64) = (batchL p n sh r g first L m).map (Value.int .i64) ++ [.int .i64 (batchAt p n sh r g first L m)] := by simp [batchL, List.range_succ]
end Go.Att
namespace Go.Proofs.YtaajjaadlpgbiaaGreatDoor
open Go.RowKit Go.Att

theorem slRows : SlT Tryz.prog 22 23 1 24 (.slice none 0 0) := .mk' Tryz.underlying22 (by kernel_rfl) (by decide)

/-- Is a batch refused? -/
def batBad (n : Int) (l1 : List Int) (L : List (List Int)) : Bool := decide (n < 8) || ((l1.length : Int) != n) || !fitB n L

end Go.Proofs.YtaajjaadlpgbiaaGreatDoor
/-! One word of several, the program's side: the words that fit. -/
namespace Go.Proofs.YtaajjaadlpgbiaaGreatDoor
open Go.RowKit Go.Att

end Go.Proofs.YtaajjaadlpgbiaaGreatDoor
end
section
namespace Go.Att
open Go.RowKit
/-- The sum of the first m rows at a place, each times a power. -/
def mixS (p r : Int) (L : List (List Int)) : Nat → Nat → Int
  | 0, _ => 0
  | m + 1, k => fadd p (mixS p r L m k) (fmul p (fpow p r m) (nth (nthL L m) k))
def mixL (p r : Int) (L : List (List Int)) : List Int := (List.range (nthL L 0).length).map fun k => mixS p r L L.length k
/-- .. where the first k places of row m are in. -/
def mixP (p r : Int) (L : List (List Int)) (n m k : Nat) : List Int := (List.range n).map fun j => if j < k then mixS p r L (m + 1) j else mixS p r L m j
theorem mixP_length (p r : Int) (L : List (List Int)) (n m k : Nat) : (mixP p r L n m k).length = n := by simp [mixP]
theorem mixP_zero (p r : Int) (L : List (List Int)) (n m : Nat) : mixP p r L n (m + 1) 0 = mixP p r L n m n := by
  unfold mixP
  refine List.map_congr_left fun j hj => ?_
  have := List.mem_range.1 hj
  simp [this]
theorem mixP_nth (p r : Int) (L : List (List Int)) (n m k : Nat) (h : k < n) : nth (mixP p r L n m k) k = mixS p r L m k := by
  unfold mixP; rw [nth_map_range _ _ _ h]; simp
theorem mixP_set (p r : Int) (L : List (List Int)) (n m k : Nat) (h : k < n) : ((mixP p r L n m k).map (Value.int .i64)).take (k * 1) ++ (Value.cells (.int .i64 (fadd p (mixS p r L m k) (fmul p (fpow p r m) (nth (nthL L m) k))))).toList ++ ((mixP p r L n m k).map (Value.int .i64)).drop (k * 1 + 1) = (mixP p r L n m (k + 1)).map (Value.int .i64) := by
  apply List.ext_getElem?
  intro j
  have hl : ((mixP p r L n m k).map (Value.int .i64)).length = n := by simp [mixP]
  have hc : (Value.cells (.int .i64 (fadd p (mixS p r L m k) (fmul p (fpow p r m) (nth (nthL L m) k))))).toList = [Value.int .i64 (mixS p r L (m + 1) k)] := by simp [Value.cells, mixS]
  rw [hc, Nat.mul_one]
  by_cases h1 : j < k
  · rw [List.append_assoc, List.getElem?_append_left (by rw [List.length_take, hl]; omega), List.getElem?_take, if_pos h1]
    simp [mixP, show j < n by omega, h1, show j < k + 1 by omega]
  · by_cases h2 : j = k
    · subst h2
      rw [List.append_assoc, List.getElem?_append_right (by rw [List.length_take, hl]; omega), List.length_take, hl, show min j n = j by omega, Nat.sub_self]
      simp [mixP, h]
    · rw [List.append_assoc, List.getElem?_append_right (by rw [List.length_take, hl]; omega), List.length_take, hl, show min k n = k by omega]
      obtain ⟨d, rfl⟩ : ∃ d, j = k + 1 + d := ⟨j - k - 1, by omega⟩
      rw [show k + 1 + d - k = d + 1 by omega, List.singleton_append, List.getElem?_cons_succ, List.getElem?_drop]
      by_cases h3 : k + 1 + d < n
      · simp [mixP, h3, show ¬ k + 1 + d < k by omega, show ¬ k + 1 + d < k + 1 by omega]
      · simp [mixP, h3]
end Go.Att
namespace Go.Proofs.YtaajjaadlpgbiaaGreatDoor
open Go.RowKit Go.Att

theorem mix1_any {w : World} {v vr : Value} {l : List Int} {L : List (List Int)} {R : Nat → Value} {c : Nat} (hv : Ints w v l) (hr : RwsAt w vr L R) (h0 : 0 < L.length) (hc : w.cell? ⟨c, 0, none⟩ = some vr) :
    Calls Tryz.prog 27 #[v, .pointer (some ⟨c, 0, none⟩)] w (Rd w (.bool ((l.length : Int) != (nthL L 0).length))) := by
  have hl := hv.run_len (P := Tryz.prog) slInts
  have hix := hr.run_index (P := Tryz.prog) slRows 0 h0
  have hcr := hr.cell 0 h0
  have hln := (hr.row 0 h0).run_len (P := Tryz.prog) slInts
  rw [show ((0 : Nat) : Int) = 0 from rfl] at hix
  clear hv hr
  go_enter Tryz.func27, Tryz.ntmps27
  go_wp2_with fail
  go_ret
  exact .same rfl

set_option maxRecDepth 100000 in
set_option maxHeartbeats 1000000 in
theorem mindex_any {w : World} {v vr : Value} {L L0 : List (List Int)} {R R0 : Nat → Value} {c : Nat} (hv : RwsAt w v L R) (hr : RwsAt w vr L0 R0) (h0 : 0 < L0.length) (hc : w.cell? ⟨c, 0, none⟩ = some vr) :
    Calls Tryz.prog 69 #[v, .func (Fn.func 27) #[] #[.pointer (some ⟨c, 0, none⟩)]] w (RdI w fun r => decide (0 ≤ r) = !fitB ((nthL L0 0).length : Int) L) := by
  have hl := hv.run_len (P := Tryz.prog) slRows
  have hlen := hv.len
  have HV := Lib.hid hv; clear hv
  have HR := Lib.hid hr; clear hr
  have HC := Lib.hid hc; clear hc
  obtain ⟨n, hn⟩ : ∃ n : Int, ((nthL L0 0).length : Int) = n := ⟨_, rfl⟩
  rw [hn]
  have HN := Lib.hid hn; clear hn
  go_enter Tryz.func69, Tryz.ntmps69
  go_wp2
  go_loopw [5, 8] (fun _ x8 wr => ∃ i m : Nat, i ≤ L.length ∧ x8 = .int .i64 i ∧ Hid (∀ j, j < i → ((nthL L j).length : Int) = n) ∧ wr = w.drewN m) (fun _ x8 _ => L.length - (intOf x8).toNat)
  case atStart => exact ⟨0, 0, Nat.zero_le _, rfl, Lib.hid (fun j hj => by omega), rfl⟩
  case round =>
    obtain ⟨i, m, hi, rfl, H, rfl⟩ := hrel
    by_cases hlt : i < L.length
    · have hix := HV.out.run_index (P := Tryz.prog) slRows i hlt
      have hcell := HV.out.cell i hlt
      by_cases he : ((nthL L i).length : Int) = n
      · have hb : (((nthL L i).length : Int) != n) = false := by rw [bne_eq_false_iff_eq]; exact he
        have HE := Lib.hid he; clear he
        go_wp2_with (go_at_call 27; refine (mix1_any ((HV.out.row i hlt).drewN m) (HR.out.drewN m) h0 ((Ext.drewN w m).cell HC.out)).mono ?_; rw [HN.out]; rintro e w' ⟨rfl, m2, rfl⟩)
        go_roundw
        case rel => exact ⟨i + 1, _, by omega, by go_num, Lib.hid (fun j hj => by
            rcases Nat.lt_or_eq_of_le (show j ≤ i by omega) with h | rfl
            · exact H.out j h
            · exact HE.out), rfl⟩
        case measure => simp [intOf]; omega
      · have hb : (((nthL L i).length : Int) != n) = true := by rw [bne_iff_ne]; exact he
        have HE := Lib.hid he; clear he
        go_wp2_with (go_at_call 27; refine (mix1_any ((HV.out.row i hlt).drewN m) (HR.out.drewN m) h0 ((Ext.drewN w m).cell HC.out)).mono ?_; rw [HN.out]; rintro e w' ⟨rfl, m2, rfl⟩)
        go_ret
        exact ⟨i, by rw [fitB_not hlt HE.out]; simp, rfl, _, rfl⟩
    · obtain rfl : i = L.length := by omega
      go_wp2_with fail
      go_ret
      exact ⟨-1, by rw [fitB_of H.out]; rfl, rfl, _, rfl⟩

set_option maxRecDepth 100000 in
theorem mcontains_any {w : World} {v vr : Value} {L L0 : List (List Int)} {R R0 : Nat → Value} {c : Nat} (hv : RwsAt w v L R) (hr : RwsAt w vr L0 R0) (h0 : 0 < L0.length) (hc : w.cell? ⟨c, 0, none⟩ = some vr) :
    Calls Tryz.prog 26 #[v, .func (Fn.func 27) #[] #[.pointer (some ⟨c, 0, none⟩)]] w (Rd w (.bool (!fitB ((nthL L0 0).length : Int) L))) := by
  have HV := Lib.hid hv; clear hv
  have HR := Lib.hid hr; clear hr
  have HC := Lib.hid hc; clear hc
  go_enter Tryz.func26, Tryz.ntmps26
  go_wp2_with (go_at_call 69; refine (mindex_any HV.out HR.out h0 HC.out).mono ?_; rintro e w' ⟨r, hr, rfl, m, rfl⟩; have HRR := Lib.hid hr; clear hr)
  go_ret
  exact .more _ (ret_bool HRR.out)

theorem mix2_any {w : World} {f : Value} {p g : Int} {fs : List Int} (hf : Fld w f p g fs) (i : Nat) (r : Int) (c1 c2 : Nat) (h1 : w.cell? ⟨c1, 0, none⟩ = some f) (h2 : w.cell? ⟨c2, 0, none⟩ = some (.int .i64 r)) (hi : i ≤ 9223372036854775807) :
    Calls Tryz.prog 29 #[.int .i64 i, .pointer (some ⟨c1, 0, none⟩), .pointer (some ⟨c2, 0, none⟩)] w (Rd w (.int .i64 (fpow p r i))) := by
  have C := Lib.hid hf; clear hf
  go_enter Tryz.func29, Tryz.ntmps29
  go_wp2_with (go_at_call 30; refine (pow_any C.out r i (by omega) (by omega)).mono ?_; rw [Int.toNat_natCast]; rintro e w' ⟨rfl, m, rfl⟩)
  go_ret
  exact .more _ rfl
end Go.Proofs.YtaajjaadlpgbiaaGreatDoor
end
section
namespace Go.Att
theorem mixS_sum (p r : Int) (L : List (List Int)) (m k : Nat) : mixS p r L m k % p = sumN (fun i => r ^ i * nth (nthL L i) k) m % p := by
  induction m with
  | zero => rfl
  | succ m ih =>
    simp only [mixS, sumN, fadd, fmul, fpow, e_idem]
    refine madd ih ?_
    rw [em_l, e_idem]
/-- A word's coefficient at a place, but for what it is taken modulo. -/
def cz (K : Nat) (g : Int) (wt : Nat → Int) (word : List Int) (j : Nat) : Int := sprZ K (nth word) g j * wt j
theorem mix_cz (p r : Int) (L : List (List Int)) (K : Nat) (g : Int) (wt : Nat → Int) (h0 : (nthL L 0).length = 2 ^ K) (j : Nat) (hj : j < 2 ^ K) :
    cz K g wt (mixL p r L) j % p = sumN (fun i => cz K g wt (nthL L i) j * r ^ i) L.length % p := by
  unfold cz
  have h1 : sprZ K (nth (mixL p r L)) g j % p = sprZ K (fun k => sumN (fun i => r ^ i * nth (nthL L i) k) L.length) g j % p := sprZ_mod p K rfl (fun k hk => by
    unfold mixL
    rw [h0, nth_map_range _ _ _ hk]
    exact mixS_sum p r L L.length k) j hj
  rw [mmul h1 rfl, sprZ_sum K (fun i => nth (nthL L i)) (fun i => r ^ i) g L.length j, Int.mul_comm, sumN_mul]
  congr 1
  exact sumN_congr _ fun i _ => by grind
/-- Is it a codeword? -/
def CW (p : Int) (K k : Nat) (g : Int) (wt : Nat → Int) (word : List Int) : Prop := ∀ j, k ≤ j → j < 2 ^ K → cz K g wt word j % p = 0
theorem keeps_all (p r : Int) (L : List (List Int)) (K k : Nat) (g : Int) (wt : Nat → Int) (h0 : (nthL L 0).length = 2 ^ K) (h : ∀ i, i < L.length → CW p K k g wt (nthL L i)) : CW p K k g wt (mixL p r L) := by
  intro j hk hj
  rw [mix_cz p r L K g wt h0 j hj]
  rw [sumN_mod p (g := fun _ => 0) L.length (fun i hi => by rw [mmul ((h i hi j hk hj).trans (Int.zero_emod p).symm) rfl]; simp)]
  rw [sumN_zero]; rfl
theorem keeps_some {p : Int} (hp : Pr p) (L : List (List Int)) (K k : Nat) (g : Int) (wt : Nat → Int) (h0 : (nthL L 0).length = 2 ^ K) {i0 : Nat} (hi0 : i0 < L.length) (h : ¬ CW p K k g wt (nthL L i0)) (P : Nat → Bool)
    (hP : ∀ r : Nat, P r = true → CW p K k g wt (mixL p (r : Int) L)) : cntN P p.toNat < L.length := by
  have hp2 := hp.two
  have h1 : ∃ j, k ≤ j ∧ j < 2 ^ K ∧ ¬ cz K g wt (nthL L i0) j % p = 0 := by
    apply Classical.byContradiction
    intro hc
    exact h fun j hk hj => Classical.byContradiction fun hn => hc ⟨j, hk, hj, hn⟩
  obtain ⟨j, hk, hj, hn⟩ := h1
  have hq : ((List.range L.length).map fun i => cz K g wt (nthL L i) j).length = L.length := by simp
  rw [← hq]
  refine few_of hp _ ⟨cz K g wt (nthL L i0) j, List.mem_map.2 ⟨i0, List.mem_range.2 hi0, rfl⟩, fun hd => hn (Int.emod_eq_zero_of_dvd hd)⟩ P p.toNat (by omega) fun r hr hPr => ?_
  have := hP r hPr j hk hj
  rw [mix_cz p r L K g wt h0 j hj] at this
  rw [ev_range]; exact this
end Go.Att
end
