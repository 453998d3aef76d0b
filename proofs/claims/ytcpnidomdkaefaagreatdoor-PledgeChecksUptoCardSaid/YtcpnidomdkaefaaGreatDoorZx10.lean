/- One word of several, the program's side: contract. Sums of rows by powers, the program's side: contracts. Words that are no codewords show: plain laws. A copy of a list; a polynomial's end: contracts. By halves: what spread comes to is what the polynomial is at the powers of a root: plain laws. No program in sight. A word's coefficients; is it a codeword?: contracts. -/
import Derived.Test.YtcpnidomdkaefaaGreatDoorZx2
import Derived.Test.YtcpnidomdkaefaaGreatDoorZx11
import Derived.Test.YtcpnidomdkaefaaGreatDoorZx9
section
/-! One word of several, the program's side: contract. -/
namespace Go.Att
open Go.RowKit
/-- Does no word differ in length from n? -/
def fitB (n : Int) (L : List (List Int)) : Bool := L.all fun l => (l.length : Int) == n
theorem fitB_nth {n : Int} {L : List (List Int)} (h : fitB n L = true) {i : Nat} (hi : i < L.length) : ((nthL L i).length : Int) = n := by
  rw [nthL_eq hi]
  have := List.all_eq_true.1 h L[i] (List.getElem_mem hi)
  simpa using this
theorem fitB_not {n : Int} {L : List (List Int)} {i : Nat} (hi : i < L.length) (h : ((nthL L i).length : Int) ≠ n) : fitB n L = false := by
  rw [Bool.eq_false_iff]
  intro hc
  exact h (fitB_nth hc hi)
theorem fitB_of {n : Int} {L : List (List Int)} (h : ∀ i, i < L.length → ((nthL L i).length : Int) = n) : fitB n L = true := by
  refine List.all_eq_true.2 fun l hl => ?_
  obtain ⟨i, hi, rfl⟩ := List.getElem_of_mem hl
  have := h i hi
  rw [nthL_eq hi] at this
  simpa using this
/-- The numbers at a place of all words. -/
def col (L : List (List Int)) (i : Nat) : List Int := L.map fun l => nth l i
theorem col_length (L : List (List Int)) (i : Nat) : (col L i).length = L.length := by simp [col]
theorem col_step {L : List (List Int)} {j : Nat} (i : Nat) (h : j < L.length) : (col (L.take (j + 1)) i).map (Value.int .i64) = (col (L.take j) i).map (Value.int .i64) ++ [.int .i64 (nth (nthL L j) i)] := by
  rw [List.take_succ_eq_append_getElem h, ← nthL_eq h]; simp [col]
def batchAt (p n sh r g : Int) (first : List Int) (L : List (List Int)) (i : Nat) : Int := batched p (nth first i) g (ptAt p sh r i ^ (3 * n / 8).toNat) (col L i)
def batchL (p n sh r g : Int) (first : List Int) (L : List (List Int)) (m : Nat) : List Int := (List.range m).map (batchAt p n sh r g first L)
theorem batchL_length (p n sh r g : Int) (first : List Int) (L : List (List Int)) (m : Nat) : (batchL p n sh r g first L m).length = m := by simp [batchL]
theorem batchL_nth (p n sh r g : Int) (first : List Int) (L : List (List Int)) {m i : Nat} (h : i < m) : nth (batchL p n sh r g first L m) i = batchAt p n sh r g first L i := by rw [nth_eq (by rw [batchL_length]; exact h)]; simp [batchL]
theorem batchL_succ (p n sh r g : Int) (first : List Int) (L : List (List Int)) (m : Nat) : (batchL p n sh r g first L (m + 1)).map (Value.int .i64) = (batchL p n sh r g first L m).map (Value.int .i64) ++ [.int .i64 (batchAt p n sh r g first L m)] := by simp [batchL, List.range_succ]
end Go.Att
namespace Go.Proofs.YtcpnidomdkaefaaGreatDoor
open Go.RowKit Go.Att

theorem slRows : SlT Tryz.prog 23 22 1 24 (.slice none 0 0) := .mk' Tryz.underlying23 (by kernel_rfl) (by decide)

/-- Is a batch refused? -/
def batBad (n : Int) (l1 : List Int) (L : List (List Int)) : Bool := decide (n < 8) || ((l1.length : Int) != n) || !fitB n L

end Go.Proofs.YtcpnidomdkaefaaGreatDoor
/-! One word of several, the program's side: the words that fit. -/
namespace Go.Proofs.YtcpnidomdkaefaaGreatDoor
open Go.RowKit Go.Att

end Go.Proofs.YtcpnidomdkaefaaGreatDoor
end
section
namespace Go.Att
open Go.RowKit
/-- The sum of the first m rows at a place, each times a power. -/
def mixS (p r : Int) (L : List (List Int)) : Nat → Nat → Int
  | 0, _ => 0
  | m + 1, k => fadd p (mixS p r L m k) (fmul p (fpow p r m) (nth (nthL L m) k))
def mixL (p r : Int) (L : List (List Int)) : List Int := (List.range (nthL L 0).length).map fun k => mixS p r L L.length k
/-- .. where the first k places of row m are in. -/
def mixP (p r : Int) (L : List (List Int)) (n m k : Nat) : List Int := (List.range n).map fun j => if j < k then mixS p r L (m + 1) j else mixS p r L m j
theorem mixP_length (p r : Int) (L : List (List Int)) (n m k : Nat) : (mixP p r L n m k).length = n := by simp [mixP]
theorem mixP_zero (p r : Int) (L : List (List Int)) (n m : Nat) : mixP p r L n (m + 1) 0 = mixP p r L n m n := by
  unfold mixP
  refine List.map_congr_left fun j hj => ?_
  have := List.mem_range.1 hj
  simp [this]
theorem mixP_nth (p r : Int) (L : List (List Int)) (n m k : Nat) (h : k < n) : nth (mixP p r L n m k) k = mixS p r L m k := by
  unfold mixP; rw [nth_map_range _ _ _ h]; simp
theorem mixP_set (p r : Int) (L : List (List Int)) (n m k : Nat) (h : k < n) : ((mixP p r L n m k).map (Value.int .i64)).take (k * 1) ++ (Value.cells (.int .i64 (fadd p (mixS p r L m k) (fmul p (fpow p r m) (nth (nthL L m) k))))).toList ++ ((mixP p r L n m k).map (Value.int .i64)).drop (k * 1 + 1) = (mixP p r L n m (k + 1)).map (Value.int .i64) := by
  apply List.ext_getElem?
  intro j
  have hl : ((mixP p r L n m k).map (Value.int .i64)).length = n := by simp [mixP]
  have hc : (Value.cells (.int .i64 (fadd p (mixS p r L m k) (fmul p (fpow p r m) (nth (nthL L m) k))))).toList = [Value.int .i64 (mixS p r L (m + 1) k)] := by simp [Value.cells, mixS]
  rw [hc, Nat.mul_one]
  by_cases h1 : j < k
  · rw [List.append_assoc, List.getElem?_append_left (by rw [List.length_take, hl]; omega), List.getElem?_take, if_pos h1]
    simp [mixP, show j < n by omega, h1, show j < k + 1 by omega]
  · by_cases h2 : j = k
    · subst h2
      rw [List.append_assoc, List.getElem?_append_right (by rw [List.length_take, hl]; omega), List.length_take, hl, show min j n = j by omega, Nat.sub_self]
      simp [mixP, h]
    · rw [List.append_assoc, List.getElem?_append_right (by rw [List.length_take, hl]; omega), List.length_take, hl, show min k n = k by omega]
      obtain ⟨d, rfl⟩ : ∃ d, j = k + 1 + d := ⟨j - k - 1, by omega⟩
      rw [show k + 1 + d - k = d + 1 by omega, List.singleton_append, List.getElem?_cons_succ, List.getElem?_drop]
      by_cases h3 : k + 1 + d < n
      · simp [mixP, h3, show ¬ k + 1 + d < k by omega, show ¬ k + 1 + d < k + 1 by omega]
      · simp [mixP, h3]
end Go.Att
namespace Go.Proofs.YtcpnidomdkaefaaGreatDoor
open Go.RowKit Go.Att

theorem mix1_any {w : World} {v vr : Value} {l : List Int} {L : List (List Int)} {R : Nat → Value} {c : Nat} (hv : Ints w v l) (hr : RwsAt w vr L R) (h0 : 0 < L.length) (hc : w.cell? ⟨c, 0, none⟩ = some vr) :
    Calls Tryz.prog 57 #[v, .pointer (some ⟨c, 0, none⟩)] w (Rd w (.bool ((l.length : Int) != (nthL L 0).length))) := by
  have hl := hv.run_len (P := Tryz.prog) slInts
  have hix := hr.run_index (P := Tryz.prog) slRows 0 h0
  have hcr := hr.cell 0 h0
  have hln := (hr.row 0 h0).run_len (P := Tryz.prog) slInts
  rw [show ((0 : Nat) : Int) = 0 from rfl] at hix
  clear hv hr
  go_enter Tryz.func57, Tryz.ntmps57
  go_wp2_with fail
  go_ret
  exact .same rfl

set_option maxRecDepth 100000 in
set_option maxHeartbeats 1000000 in
theorem mindex_any {w : World} {v vr : Value} {L L0 : List (List Int)} {R R0 : Nat → Value} {c : Nat} (hv : RwsAt w v L R) (hr : RwsAt w vr L0 R0) (h0 : 0 < L0.length) (hc : w.cell? ⟨c, 0, none⟩ = some vr) :
    Calls Tryz.prog 93 #[v, .func (Fn.func 57) #[] #[.pointer (some ⟨c, 0, none⟩)]] w (RdI w fun r => decide (0 ≤ r) = !fitB ((nthL L0 0).length : Int) L) := by
  have hl := hv.run_len (P := Tryz.prog) slRows
  have hlen := hv.len
  have HV := Lib.hid hv; clear hv
  have HR := Lib.hid hr; clear hr
  have HC := Lib.hid hc; clear hc
  obtain ⟨n, hn⟩ : ∃ n : Int, ((nthL L0 0).length : Int) = n := ⟨_, rfl⟩
  rw [hn]
  have HN := Lib.hid hn; clear hn
  go_enter Tryz.func93, Tryz.ntmps93
  go_wp2
  go_loopw [5, 8] (fun _ x8 wr => ∃ i m : Nat, i ≤ L.length ∧ x8 = .int .i64 i ∧ Hid (∀ j, j < i → ((nthL L j).length : Int) = n) ∧ wr = w.drewN m) (fun _ x8 _ => L.length - (intOf x8).toNat)
  case atStart => exact ⟨0, 0, Nat.zero_le _, rfl, Lib.hid (fun j hj => by omega), rfl⟩
  case round =>
    obtain ⟨i, m, hi, rfl, H, rfl⟩ := hrel
    by_cases hlt : i < L.length
    · have hix := HV.out.run_index (P := Tryz.prog) slRows i hlt
      have hcell := HV.out.cell i hlt
      by_cases he : ((nthL L i).length : Int) = n
      · have hb : (((nthL L i).length : Int) != n) = false := by rw [bne_eq_false_iff_eq]; exact he
        have HE := Lib.hid he; clear he
        go_wp2_with (go_at_call 57; refine (mix1_any ((HV.out.row i hlt).drewN m) (HR.out.drewN m) h0 ((Ext.drewN w m).cell HC.out)).mono ?_; rw [HN.out]; rintro e w' ⟨rfl, m2, rfl⟩)
        go_roundw
        case rel => exact ⟨i + 1, _, by omega, by go_num, Lib.hid (fun j hj => by
            rcases Nat.lt_or_eq_of_le (show j ≤ i by omega) with h | rfl
            · exact H.out j h
            · exact HE.out), rfl⟩
        case measure => simp [intOf]; omega
      · have hb : (((nthL L i).length : Int) != n) = true := by rw [bne_iff_ne]; exact he
        have HE := Lib.hid he; clear he
        go_wp2_with (go_at_call 57; refine (mix1_any ((HV.out.row i hlt).drewN m) (HR.out.drewN m) h0 ((Ext.drewN w m).cell HC.out)).mono ?_; rw [HN.out]; rintro e w' ⟨rfl, m2, rfl⟩)
        go_ret
        exact ⟨i, by rw [fitB_not hlt HE.out]; simp, rfl, _, rfl⟩
    · obtain rfl : i = L.length := by omega
      go_wp2_with fail
      go_ret
      exact ⟨-1, by rw [fitB_of H.out]; rfl, rfl, _, rfl⟩

set_option maxRecDepth 100000 in
theorem mcontains_any {w : World} {v vr : Value} {L L0 : List (List Int)} {R R0 : Nat → Value} {c : Nat} (hv : RwsAt w v L R) (hr : RwsAt w vr L0 R0) (h0 : 0 < L0.length) (hc : w.cell? ⟨c, 0, none⟩ = some vr) :
    Calls Tryz.prog 39 #[v, .func (Fn.func 57) #[] #[.pointer (some ⟨c, 0, none⟩)]] w (Rd w (.bool (!fitB ((nthL L0 0).length : Int) L))) := by
  have HV := Lib.hid hv; clear hv
  have HR := Lib.hid hr; clear hr
  have HC := Lib.hid hc; clear hc
  go_enter Tryz.func39, Tryz.ntmps39
  go_wp2_with (go_at_call 93; refine (mindex_any HV.out HR.out h0 HC.out).mono ?_; rintro e w' ⟨r, hr, rfl, m, rfl⟩; have HRR := Lib.hid hr; clear hr)
  go_ret
  exact .more _ (ret_bool HRR.out)

theorem mix2_any {w : World} {f : Value} {p g : Int} {fs : List Int} (hf : Fld w f p g fs) (i : Nat) (r : Int) (c1 c2 : Nat) (h1 : w.cell? ⟨c1, 0, none⟩ = some f) (h2 : w.cell? ⟨c2, 0, none⟩ = some (.int .i64 r)) (hi : i ≤ 9223372036854775807) :
    Calls Tryz.prog 59 #[.int .i64 i, .pointer (some ⟨c1, 0, none⟩), .pointer (some ⟨c2, 0, none⟩)] w (Rd w (.int .i64 (fpow p r i))) := by
  have C := Lib.hid hf; clear hf
  go_enter Tryz.func59, Tryz.ntmps59
  go_wp2_with (go_at_call 42; refine (pow_any C.out r i (by omega) (by omega)).mono ?_; rw [Int.toNat_natCast]; rintro e w' ⟨rfl, m, rfl⟩)
  go_ret
  exact .more _ rfl
end Go.Proofs.YtcpnidomdkaefaaGreatDoor
end
section
namespace Go.Att
theorem mixS_sum (p r : Int) (L : List (List Int)) (m k : Nat) : mixS p r L m k % p = sumN (fun i => r ^ i * nth (nthL L i) k) m % p := by
  induction m with
  | zero => rfl
  | succ m ih =>
    simp only [mixS, sumN, fadd, fmul, fpow, e_idem]
    refine madd ih ?_
    rw [em_l, e_idem]
/-- A word's coefficient at a place, but for what it is taken modulo. -/
def cz (K : Nat) (g : Int) (wt : Nat → Int) (word : List Int) (j : Nat) : Int := sprZ K (nth word) g j * wt j
theorem mix_cz (p r : Int) (L : List (List Int)) (K : Nat) (g : Int) (wt : Nat → Int) (h0 : (nthL L 0).length = 2 ^ K) (j : Nat) (hj : j < 2 ^ K) :
    cz K g wt (mixL p r L) j % p = sumN (fun i => cz K g wt (nthL L i) j * r ^ i) L.length % p := by
  unfold cz
  have h1 : sprZ K (nth (mixL p r L)) g j % p = sprZ K (fun k => sumN (fun i => r ^ i * nth (nthL L i) k) L.length) g j % p := sprZ_mod p K rfl (fun k hk => by
    unfold mixL
    rw [h0, nth_map_range _ _ _ hk]
    exact mixS_sum p r L L.length k) j hj
  rw [mmul h1 rfl, sprZ_sum K (fun i => nth (nthL L i)) (fun i => r ^ i) g L.length j, Int.mul_comm, sumN_mul]
  congr 1
  exact sumN_congr _ fun i _ => by grind
/-- Is it a codeword? -/
def CW (p : Int) (K k : Nat) (g : Int) (wt : Nat → Int) (word : List Int) : Prop := ∀ j, k ≤ j → j < 2 ^ K → cz K g wt word j % p = 0
theorem keeps_all (p r : Int) (L : List (List Int)) (K k : Nat) (g : Int) (wt : Nat → Int) (h0 : (nthL L 0).length = 2 ^ K) (h : ∀ i, i < L.length → CW p K k g wt (nthL L i)) : CW p K k g wt (mixL p r L) := by
  intro j hk hj
  rw [mix_cz p r L K g wt h0 j hj]
  rw [sumN_mod p (g := fun _ => 0) L.length (fun i hi => by rw [mmul ((h i hi j hk hj).trans (Int.zero_emod p).symm) rfl]; simp)]
  rw [sumN_zero]; rfl
theorem keeps_some {p : Int} (hp : Pr p) (L : List (List Int)) (K k : Nat) (g : Int) (wt : Nat → Int) (h0 : (nthL L 0).length = 2 ^ K) {i0 : Nat} (hi0 : i0 < L.length) (h : ¬ CW p K k g wt (nthL L i0)) (P : Nat → Bool)
    (hP : ∀ r : Nat, P r = true → CW p K k g wt (mixL p (r : Int) L)) : cntN P p.toNat < L.length := by
  have hp2 := hp.two
  have h1 : ∃ j, k ≤ j ∧ j < 2 ^ K ∧ ¬ cz K g wt (nthL L i0) j % p = 0 := by
    apply Classical.byContradiction
    intro hc
    exact h fun j hk hj => Classical.byContradiction fun hn => hc ⟨j, hk, hj, hn⟩
  obtain ⟨j, hk, hj, hn⟩ := h1
  have hq : ((List.range L.length).map fun i => cz K g wt (nthL L i) j).length = L.length := by simp
  rw [← hq]
  refine few_of hp _ ⟨cz K g wt (nthL L i0) j, List.mem_map.2 ⟨i0, List.mem_range.2 hi0, rfl⟩, fun hd => hn (Int.emod_eq_zero_of_dvd hd)⟩ P p.toNat (by omega) fun r hr hPr => ?_
  have := hP r hPr j hk hj
  rw [mix_cz p r L K g wt h0 j hj] at this
  rw [ev_range]; exact this
end Go.Att
end
section
namespace Go.Att
open Go.RowKit
theorem degN_bd (p : Int) (a : List Int) (k : Nat) : degN p a ≤ k ↔ ∀ j, k ≤ j → j < a.length → nth a j % p = 0 := by
  induction a generalizing k with
  | nil => simp [degN]
  | cons c l ih =>
    have key : degN p (c :: l) = if degN p l = 0 then (if fof p c = 0 then 0 else 1) else degN p l + 1 := rfl
    cases k with
    | zero =>
      rw [key]
      constructor
      · intro h j _ hj
        by_cases h0 : degN p l = 0
        · rw [if_pos h0] at h
          by_cases hc : fof p c = 0
          · cases j with
            | zero => simpa [nth, fof] using hc
            | succ j => have := (ih 0).1 (by omega) j (by omega) (by simpa using hj); simpa [nth] using this
          · rw [if_neg hc] at h; omega
        · rw [if_neg h0] at h; omega
      · intro h
        have h0 : degN p l = 0 := by
          have := (ih 0).2 (fun j _ hj => by have := h (j + 1) (by omega) (by simpa using hj); simpa [nth] using this)
          omega
        have hc : fof p c = 0 := by have := h 0 (by omega) (by simp); simpa [nth, fof] using this
        rw [if_pos h0, if_pos hc]; omega
    | succ k =>
      have e : degN p (c :: l) ≤ k + 1 ↔ degN p l ≤ k := by
        rw [key]; split
        · split <;> omega
        · omega
      rw [e, ih k]
      constructor
      · intro h j hj hl
        obtain ⟨j, rfl⟩ : ∃ i, j = i + 1 := ⟨j - 1, by omega⟩
        have := h j (by omega) (by simpa using hl)
        simpa [nth] using this
      · intro h j hj hl
        have := h (j + 1) (by omega) (by simpa using hl)
        simpa [nth] using this
theorem own_empty (w : World) (e sz : Nat) : (w.alloc (Obj.cells #[] e)).ownsRow w.heap.size e sz (.slice (some ⟨w.heap.size, 0, none⟩) 0 0) 0 [] :=
  ⟨by simp, .inr ⟨w.heap.size, 0, #[], rfl, Nat.le_refl _, heap_alloc_new w _, Nat.le_refl _, Nat.zero_le _, by simp, by simp⟩⟩
end Go.Att
namespace Go.Proofs.YtcpnidomdkaefaaGreatDoor
open Go.RowKit Go.Att

set_option maxRecDepth 100000 in
set_option maxHeartbeats 1000000 in
theorem clone_any {w : World} {va : Value} {l : List Int} (hl : Ints w va l) (h63 : l.length ≤ 4294967296) :
    Calls Tryz.prog 61 #[va] w (Gives w fun u w' => w'.ownsRow w.heap.size 3 1 u l.length (l.map (Value.int .i64))) := by
  have hsl : Sl w 1 va l.length (l.map (Value.int .i64)) := hl
  obtain ⟨ao, cap, hv⟩ := hl.shape
  have HS := Lib.hid hsl
  subst hv
  have hq : ∀ w', (binOp .eql 22 (.slice ao l.length cap) (.slice none 0 0)).run Tryz.prog w' = .ok (.bool ao.isNone) w' := fun w' => Lib.run_eql_slice_nil w' 22 3 ao l.length cap 0 0 Tryz.underlying22
  cases ao with
  | none =>
    obtain ⟨ao', cap', hv, h2, h3, h4, h5⟩ := hsl
    have hl0 : l.length = 0 := by
      apply Classical.byContradiction
      intro hn
      obtain ⟨b, off, e, _⟩ := h5 0 (by simp; omega)
      simp only [Value.slice.injEq] at hv
      rw [e] at hv
      cases hv.1
    obtain rfl : l = [] := List.eq_nil_of_length_eq_zero hl0
    clear hv h2 h3 h4 h5 hl0
    simp only [List.length_nil, Option.isNone_none] at hq
    go_enter Tryz.func61, Tryz.ntmps61
    go_wp2
    go_ret
    exact .mk _ rfl (Ext.refl _) (World.ownsRow_nil _ _ _ _)
  | some a =>
    clear hsl
    go_enter Tryz.func61, Tryz.ntmps61
    go_wp2_with (at_builtin; refine wpList_appSl rfl _ _ 22 rfl slInts rfl (Ext.alloc w (Obj.cells #[] 3)) (own_empty w 3 1) rfl (HS.out.ext (Ext.alloc w _)) (by intro u hu; simp only [List.mem_map] at hu; obtain ⟨_, _, rfl⟩ := hu; rfl) rfl (by omega) (by omega) ?_; intro v1 w1 HO1 HX1 _)
    refine bodyPost_ret (v := v1) (by simp [results, Tryz.results61, go_sem]) rfl ?_
    exact .mk _ rfl HX1 (by simpa using HO1)

end Go.Proofs.YtcpnidomdkaefaaGreatDoor
end
section
namespace Go.Att
theorem sumN_two (f : Nat → Int) (n : Nat) : sumN f (2 * n) = sumN (fun i => f (2 * i)) n + sumN (fun i => f (2 * i + 1)) n := by
  induction n with
  | zero => rfl
  | succ n ih =>
    rw [show 2 * (n + 1) = 2 * n + 1 + 1 by omega]
    simp only [sumN]
    rw [ih]
    omega
theorem pow_dbl (g : Int) (n : Nat) : (g * g) ^ n = g ^ (2 * n) := by
  rw [Int.pow_mul, show g ^ 2 = g * g by rw [Int.pow_succ, Int.pow_succ, Int.pow_zero, Int.one_mul]]
theorem neg_pow_even (i : Nat) : ((-1 : Int)) ^ (2 * i) = 1 := by
  induction i with
  | zero => rfl
  | succ i ih => rw [show 2 * (i + 1) = 2 * i + 1 + 1 by omega, Int.pow_succ, Int.pow_succ, ih]; rfl
theorem neg_pow_odd (i : Nat) : ((-1 : Int)) ^ (2 * i + 1) = -1 := by rw [Int.pow_succ, neg_pow_even]; rfl
theorem pow_cong {p a b : Int} (h : a % p = b % p) (n : Nat) : a ^ n % p = b ^ n % p := by rw [← pow_mod p a n, h, pow_mod]
theorem sprZ_dft {p : Int} : ∀ (k : Nat) (a : Nat → Int) (g : Int), (∀ m, k = m + 1 → g ^ (2 ^ m) % p = (-1) % p) → ∀ j, j < 2 ^ k → sprZ k a g j % p = sumN (fun i => a i * g ^ (i * j)) (2 ^ k) % p := by
  intro k
  induction k with
  | zero =>
    intro a g _ j hj
    obtain rfl : j = 0 := by simpa using hj
    simp [sprZ, sumN]
  | succ k ih =>
    intro a g hg j hj
    have hg2 : ∀ m, k = m + 1 → (g * g) ^ (2 ^ m) % p = (-1) % p := fun m hm => by
      rw [pow_dbl, show 2 * 2 ^ m = 2 ^ k by rw [hm, Nat.pow_succ, Nat.mul_comm]]
      exact hg k rfl
    have hk := hg k rfl
    rw [Nat.pow_succ, Nat.mul_comm] at hj ⊢
    rw [sumN_two]
    simp only [sprZ]
    split
    · rename_i hlt
      refine madd ((ih _ _ hg2 j hlt).trans (congrArg (· % p) (sumN_congr _ fun i _ => ?_))) ((mmul rfl (ih _ _ hg2 j hlt)).trans (congrArg (· % p) ?_))
      · rw [pow_dbl, Nat.mul_assoc]
      · rw [sumN_mul]
        refine sumN_congr _ fun i _ => ?_
        rw [pow_dbl, Nat.add_mul, Int.pow_add, Nat.one_mul, Nat.mul_assoc]
        generalize g ^ (2 * (i * j)) = x
        generalize g ^ j = y
        rw [Int.mul_comm y, Int.mul_assoc]
    · rename_i hge
      obtain ⟨c, rfl⟩ : ∃ c, j = c + 2 ^ k := ⟨j - 2 ^ k, by omega⟩
      have hc : c < 2 ^ k := by omega
      rw [show c + 2 ^ k - 2 ^ k = c by omega]
      have e1 : ∀ i, g ^ ((2 * i) * (c + 2 ^ k)) % p = (g * g) ^ (i * c) % p := fun i => by
        rw [Nat.mul_add, Int.pow_add, pow_dbl, Nat.mul_assoc]
        have h2 : g ^ (2 * i * 2 ^ k) % p = 1 % p := by
          rw [Nat.mul_comm, Int.pow_mul, pow_cong hk, neg_pow_even]
        have := mmul (rfl : g ^ (2 * (i * c)) % p = g ^ (2 * (i * c)) % p) h2
        rw [Int.mul_one] at this
        exact this
      have e2 : ∀ i, g ^ ((2 * i + 1) * (c + 2 ^ k)) % p = (g ^ c * (g * g) ^ (i * c) * (-1)) % p := fun i => by
        rw [Nat.mul_add, Int.pow_add]
        have h2 : g ^ ((2 * i + 1) * 2 ^ k) % p = (-1) % p := by
          rw [Nat.mul_comm, Int.pow_mul, pow_cong hk, neg_pow_odd]
        refine (mmul rfl h2).trans (congrArg (· % p) ?_)
        congr 1
        rw [pow_dbl, ← Int.pow_add]
        congr 1
        rw [Nat.add_mul, Nat.one_mul, Nat.mul_assoc, Nat.add_comm]
      rw [show ∀ x y : Int, x - y = x + (-1) * y from fun x y => by omega]
      refine madd ((ih _ _ hg2 c hc).trans (sumN_mod p _ fun i _ => mmul rfl (e1 i).symm)) ?_
      rw [Int.mul_comm (-1), Int.mul_assoc, Int.mul_comm _ (-1), ← Int.mul_assoc]
      refine (mmul rfl (ih _ _ hg2 c hc)).trans ?_
      rw [sumN_mul]
      refine sumN_mod p _ fun i _ => ?_
      have := mmul (rfl : a (2 * i + 1) % p = a (2 * i + 1) % p) (e2 i)
      rw [this]
      congr 1
      generalize (g * g) ^ (i * c) = x
      generalize g ^ c = y
      generalize a (2 * i + 1) = z
      grind
end Go.Att
namespace Go.Proofs.YtcpnidomdkaefaaGreatDoor
open Go.Att
/-- The half of a root's powers is -1. -/
theorem root_neg {p g : Int} (hp : Pr p) (hp3 : 3 ≤ p) (hg : IsGen p g) {n : Int} {m : Nat} (hn : n = 2 ^ (m + 1)) (hd : (p - 1) % n = 0) : froot p g n ^ (2 ^ m) % p = (-1) % p := by
  have hpos : (0 : Int) < 2 ^ m := Int.pow_pos (by decide)
  obtain ⟨c, hc⟩ := Int.dvd_of_emod_eq_zero hd
  have hn2 : n = 2 * 2 ^ m := by rw [hn, Int.pow_succ, Int.mul_comm]
  have hc0 : 0 < c := by
    apply Classical.byContradiction
    intro h
    have h0 : n * c ≤ 0 := by
      have := Int.mul_le_mul_of_nonneg_left (show c ≤ 0 by omega) (show 0 ≤ n by omega)
      simpa using this
    omega
  have hq : (p - 1) / n = c := by rw [hc]; exact Int.mul_ediv_cancel_left c (by omega)
  unfold froot fpow
  rw [hq, pow_cong (e_idem _ _), ← Int.pow_mul]
  obtain ⟨cn, rfl⟩ := Int.eq_ofNat_of_zero_le (show 0 ≤ c by omega)
  rw [Int.toNat_natCast]
  have hM : ((cn * 2 ^ m : Nat) : Int) = (cn : Int) * 2 ^ m := by push_cast; rfl
  have hM2 : 2 * ((cn * 2 ^ m : Nat) : Int) = p - 1 := by rw [hM, hc, hn2]; grind
  generalize cn * 2 ^ m = M at *
  have hf := fermat hp hg.1
  rw [show (p - 1).toNat = M + M by omega, Int.pow_add] at hf
  have h1 := hg.2 M (by omega) (by omega)
  have hdv : p ∣ (g ^ M - 1) * (g ^ M + 1) := by
    have e : (g ^ M - 1) * (g ^ M + 1) = g ^ M * g ^ M - 1 := by grind
    rw [e]
    exact dvd_sub_of_mod_eq (hf.trans (one_mod hp.two).symm)
  rcases hp.euclid hdv with h | h
  · exact absurd ((mod_eq_of_dvd_sub h).trans (one_mod hp.two)) h1
  · exact mod_eq_of_dvd_sub (by rw [show g ^ M - -1 = g ^ M + 1 by omega]; exact h)
end Go.Proofs.YtcpnidomdkaefaaGreatDoor
namespace Go.Att
/-- .. and of what undoes it. -/
theorem inv_neg {p r : Int} (hp : Pr p) (h0 : ¬ p ∣ r) {N : Nat} (h : r ^ N % p = (-1) % p) : finv p r ^ N % p = (-1) % p := by
  have h1 := pow_cong ((finv_mul hp h0).trans (one_mod hp.two).symm) N
  rw [Int.mul_pow] at h1
  have h2 := mmul (rfl : finv p r ^ N % p = finv p r ^ N % p) h
  have h3 : (finv p r ^ N * -1) % p = 1 % p := by rw [← h2, h1, Int.one_pow]
  have h4 := mmul h3 (rfl : (-1 : Int) % p = (-1) % p)
  rw [show finv p r ^ N * -1 * -1 = finv p r ^ N by omega, show (1 : Int) * -1 = -1 by rfl] at h4
  exact h4
/-- What a polynomial is at all points. -/
def valsL (p sh r : Int) (n : Nat) (a : List Int) : List Int := (List.range n).map fun j => ev a (ptAt p sh r j) % p
theorem valsL_length (p sh r : Int) (n : Nat) (a : List Int) : (valsL p sh r n a).length = n := by simp [valsL]
theorem valsL_nth (p sh r : Int) (n : Nat) (a : List Int) {j : Nat} (h : j < n) : nth (valsL p sh r n a) j = ev a (ptAt p sh r j) % p := nth_map_range _ _ _ h
/-- The polynomial that has these values. -/
def cofL (p r : Int) (K : Nat) (n sh : Int) (l : List Int) : List Int := (List.range (2 ^ K)).map fun j => sumN (fun i => nth l i * finv p r ^ (i * j)) (2 ^ K) * ptAt p (finv p n) (finv p sh) j % p
theorem cofL_length (p r : Int) (K : Nat) (n sh : Int) (l : List Int) : (cofL p r K n sh l).length = 2 ^ K := by simp [cofL]
theorem cofL_nth (p r : Int) (K : Nat) (n sh : Int) (l : List Int) {j : Nat} (h : j < 2 ^ K) : nth (cofL p r K n sh l) j = sumN (fun i => nth l i * finv p r ^ (i * j)) (2 ^ K) * ptAt p (finv p n) (finv p sh) j % p := nth_map_range _ _ _ h
theorem degN_cong {p : Int} : ∀ {a b : List Int}, a.length = b.length → (∀ j, j < a.length → nth a j % p = nth b j % p) → degN p a = degN p b := fun {a b} hl h => by
  apply Nat.le_antisymm
  · rw [degN_bd]
    intro j h1 h2
    rw [h j h2]
    exact (degN_bd p b _).1 (Nat.le_refl _) j h1 (by omega)
  · rw [degN_bd]
    intro j h1 h2
    rw [← h j (by omega)]
    exact (degN_bd p a _).1 (Nat.le_refl _) j h1 (by omega)
theorem trimL_cong {p : Int} {a b : List Int} (hl : a.length = b.length) (h : ∀ j, j < a.length → nth a j % p = nth b j % p) : trimL p a = trimL p b := by
  unfold trimL
  rw [degN_cong hl h]
  apply List.ext_getElem (by simp [hl])
  intro i h1 h2
  simp only [List.length_map, List.length_take] at h1 h2
  have := h i (by omega)
  rw [nth_eq (by omega), nth_eq (by omega)] at this
  simp [fof, this]
theorem cofs_same {p r : Int} {K : Nat} {n sh : Int} {l M : List Int} (hg : ∀ m, K = m + 1 → finv p r ^ (2 ^ m) % p = (-1) % p) (hM : M.length = 2 ^ K) (h : ∀ j, j < 2 ^ K → nth M j % p = cz K (finv p r) (ptAt p (finv p n) (finv p sh)) l j % p) : trimL p M = trimL p (cofL p r K n sh l) := by
  have hc : ∀ j, j < 2 ^ K → nth M j % p = nth (cofL p r K n sh l) j % p := fun j hj => by
    rw [h j hj, cofL_nth _ _ _ _ _ _ hj, e_idem]
    unfold cz
    exact mmul (sprZ_dft K _ _ hg j hj) rfl
  exact trimL_cong (by rw [hM, cofL_length]) (fun j hj => hc j (by omega))
end Go.Att
end
section
namespace Go.Att
open Go.RowKit
noncomputable def cwB (p : Int) (K k : Nat) (g : Int) (wt : Nat → Int) (word : List Int) : Bool := @decide (CW p K k g wt word) (Classical.propDecidable _)
theorem cwB_iff {p : Int} {K k : Nat} {g : Int} {wt : Nat → Int} {word : List Int} : cwB p K k g wt word = true ↔ CW p K k g wt word := ⟨fun h => @of_decide_eq_true _ (Classical.propDecidable _) h, fun h => @decide_eq_true _ (Classical.propDecidable _) h⟩
/-- The products up to i. -/
def cofU (p : Int) (L : List Int) (P : Nat → Int) (i : Nat) : List Int := (List.range L.length).map fun j => if j < i then fmul p (nth L j) (P j) else nth L j
theorem cofU_length (p : Int) (L : List Int) (P : Nat → Int) (i : Nat) : (cofU p L P i).length = L.length := by simp [cofU]
theorem cofU_zero (p : Int) (L : List Int) (P : Nat → Int) : cofU p L P 0 = L := by
  apply List.ext_getElem (by simp [cofU])
  intro j h1 h2
  simp [cofU, nth_eq h2]
theorem cofU_nth (p : Int) (L : List Int) (P : Nat → Int) (i j : Nat) (h : j < L.length) : nth (cofU p L P i) j = if j < i then fmul p (nth L j) (P j) else nth L j := nth_map_range _ _ _ h
theorem cofU_set (p : Int) (L : List Int) (P : Nat → Int) (i : Nat) (h : i < L.length) : ((cofU p L P i).map (Value.int .i64)).take (i * 1) ++ [.int .i64 (fmul p (nth L i) (P i))] ++ ((cofU p L P i).map (Value.int .i64)).drop (i * 1 + 1) = (cofU p L P (i + 1)).map (Value.int .i64) := by
  rw [Nat.mul_one]
  apply List.ext_getElem?
  intro j
  by_cases hj : j < L.length
  · by_cases h1 : j < i
    · rw [List.append_assoc, List.getElem?_append_left (by simp [cofU]; omega), List.getElem?_take, if_pos h1]
      simp [cofU, hj, h1, show j < i + 1 by omega]
    · by_cases h2 : j = i
      · subst h2
        rw [List.append_assoc, List.getElem?_append_right (by simp [cofU]; omega)]
        simp [cofU, hj, show min j L.length = j by omega]
      · rw [List.getElem?_append_right (by simp [cofU]; omega)]
        simp only [List.length_append, List.length_take, List.length_map, cofU, List.length_range, List.length_singleton, List.getElem?_drop]
        rw [show i + 1 + (j - (min i L.length + 1)) = j by omega]
        simp [hj, h1, show ¬ j < i + 1 by omega]
  · rw [List.getElem?_eq_none (by simp [cofU]; omega), List.getElem?_eq_none (by simp [cofU]; omega)]
theorem trimL_len (p : Int) (M : List Int) : (trimL p M).length = degN p M := by
  unfold trimL; rw [List.length_map, List.length_take]; have := degN_le p M; omega
theorem is_fin {p : Int} {K : Nat} {g : Int} {wt : Nat → Int} {l M : List Int} (hM : M.length = 2 ^ K) (hc : ∀ j, j < 2 ^ K → nth M j % p = cz K g wt l j % p) (k : Nat) : decide ((trimL p M).length ≤ k) = cwB p K k g wt l := by
  rw [trimL_len, Bool.eq_iff_iff, cwB_iff, decide_eq_true_iff]
  rw [degN_bd]
  unfold CW
  rw [hM]
  exact ⟨fun h j h1 h2 => by rw [← hc j h2]; exact h j h1 h2, fun h j h1 h2 => by rw [hc j h2]; exact h j h1 h2⟩
end Go.Att
namespace Go.Proofs.YtcpnidomdkaefaaGreatDoor
open Go.RowKit Go.Att
/-- A word's coefficients are made. -/
def CofGot (p n sh r : Int) (K : Nat) (l : List Int) (v : Value) (w' : World) : Prop := ∃ (u : Value) (M : List Int), v = .tuple #[u, .nilIface] ∧ Ints w' u (trimL p M) ∧ M.length = 2 ^ K ∧ ∀ j, j < 2 ^ K → nth M j % p = cz K (finv p r) (ptAt p (finv p n) (finv p sh)) l j % p

/-- What Is says of a word. -/
def IsSaid (b : Bool) (w : World) (e : Ending) (w' : World) : Prop := e = .returned (.bool b) ∧ Ext w w'
end Go.Proofs.YtcpnidomdkaefaaGreatDoor
end
