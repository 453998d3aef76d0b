/- One word of several, the program's side: contract. -/
import Derived.Test.YthjemncbphdomaaDoorH4
namespace Go.Att
open Go.RowKit
/-- Does no word differ in length from n? -/
def fitB (n : Int) (L : List (List Int)) : Bool := L.all fun l => (l.length : Int) == n
theorem fitB_nth {n : Int} {L : List (List Int)} (h : fitB n L = true) {i : Nat} (hi : i < L.length) : ((nthL L i).length : Int) = n := by
  rw [nthL_eq hi]
  have := List.all_eq_true.1 h L[i] (List.getElem_mem hi)
  simpa using this
theorem fitB_not {n : Int} {L : List (List Int)} {i : Nat} (hi : i < L.length) (h : ((nthL L i).length : Int) ≠ n) : fitB n L = false := by
  rw [Bool.eq_false_iff]
  intro hc
  exact h (fitB_nth hc hi)
theorem fitB_of {n : Int} {L : List (List Int)} (h : ∀ i, i < L.length → ((nthL L i).length : Int) = n) : fitB n L = true := by
  refine List.all_eq_true.2 fun l hl => ?_
  obtain ⟨i, hi, rfl⟩ := List.getElem_of_mem hl
  have := h i hi
  rw [nthL_eq hi] at this
  simpa using this
/-- The numbers at a place of all words. -/
def col (L : List (List Int)) (i : Nat) : List Int := L.map fun l => nth l i
theorem col_length (L : List (List Int)) (i : Nat) : (col L i).length = L.length := by simp [col]
theorem col_step {L : List (List Int)} {j : Nat} (i : Nat) (h : j < L.length) : (col (L.take (j + 1)) i).map (Value.int .i64) = (col (L.take j) i).map (Value.int .i64) ++ [.int .i64 (nth (nthL L j) i)] := by
  rw [List.take_succ_eq_append_getElem h, ← nthL_eq h]; simp [col]
def batchAt (p n sh r g : Int) (first : List Int) (L : List (List Int)) (i : Nat) : Int := batched p (nth first i) g (ptAt p sh r i ^ (3 * n / 8).toNat) (col L i)
def batchL (p n sh r g : Int) (first : List Int) (L : List (List Int)) (m : Nat) : List Int := (List.range m).map (batchAt p n sh r g first L)
theorem batchL_length (p n sh r g : Int) (first : List Int) (L : List (List Int)) (m : Nat) : (batchL p n sh r g first L m).length = m := by simp [batchL]
theorem batchL_nth (p n sh r g : Int) (first : List Int) (L : List (List Int)) {m i : Nat} (h : i < m) : nth (batchL p n sh r g first L m) i = batchAt p n sh r g first L i := by rw [nth_eq (by rw [batchL_length]; exact h)]; simp [batchL]
theorem batchL_succ (p n sh r g : Int) (first : List Int) (L : List (List Int)) (m : Nat) : (batchL p n sh r g first L (m + 1)).map (Value.int .i64) = (batchL p n sh r g first L m).map (Value.int .i64) ++ [.int .i64 (batchAt p n sh r g first L m)] := by simp [batchL, List.range_succ]
end Go.Att
namespace Go.Proofs.YthjemncbphdomaaDoor
open Go.RowKit Go.Att

theorem slRows : SlT Tryd.prog 35 23 1 24 (.slice none 0 0) := .mk' Tryd.underlying35 (by kernel_rfl) (by decide)

theorem batch1_any {w : World} {v : Value} {l : List Int} {n : Int} {c : Nat} (hv : Ints w v l) (hc : w.cell? ⟨c, 0, none⟩ = some (.int .i64 n)) :
    Calls Tryd.prog 97 #[v, .pointer (some ⟨c, 0, none⟩)] w (Rd w (.bool ((l.length : Int) != n))) := by
  have hl := hv.run_len (P := Tryd.prog) slInts
  clear hv
  go_enter Tryd.func97, Tryd.ntmps97
  go_wp2
  go_ret
  exact .same rfl

set_option maxRecDepth 100000 in
set_option maxHeartbeats 1000000 in
theorem index_any {w : World} {v : Value} {L : List (List Int)} {R : Nat → Value} {n : Int} {c : Nat} (hv : RwsAt w v L R) (hc : w.cell? ⟨c, 0, none⟩ = some (.int .i64 n)) :
    Calls Tryd.prog 144 #[v, .func (Fn.func 97) #[] #[.pointer (some ⟨c, 0, none⟩)]] w (RdI w fun r => decide (0 ≤ r) = !fitB n L) := by
  have hl := hv.run_len (P := Tryd.prog) slRows
  have hlen := hv.len
  have HV := Lib.hid hv; clear hv
  have HC := Lib.hid hc; clear hc
  go_enter Tryd.func144, Tryd.ntmps144
  go_wp2
  go_loopw [5, 8] (fun _ x8 wr => ∃ i m : Nat, i ≤ L.length ∧ x8 = .int .i64 i ∧ Hid (∀ j, j < i → ((nthL L j).length : Int) = n) ∧ wr = w.drewN m) (fun _ x8 _ => L.length - (intOf x8).toNat)
  case atStart => exact ⟨0, 0, Nat.zero_le _, rfl, Lib.hid (fun j hj => by omega), rfl⟩
  case round =>
    obtain ⟨i, m, hi, rfl, H, rfl⟩ := hrel
    by_cases hlt : i < L.length
    · have hix := HV.out.run_index (P := Tryd.prog) slRows i hlt
      have hcell := HV.out.cell i hlt
      by_cases he : ((nthL L i).length : Int) = n
      · have hb : (((nthL L i).length : Int) != n) = false := by rw [bne_eq_false_iff_eq]; exact he
        have HE := Lib.hid he; clear he
        go_wp2_with (go_at_call 97; refine (batch1_any (n := n) (c := c) ((HV.out.row i hlt).drewN m) ((Ext.drewN w m).cell HC.out)).mono ?_; rintro e w' ⟨rfl, m2, rfl⟩)
        go_roundw
        case rel => exact ⟨i + 1, _, by omega, by go_num, Lib.hid (fun j hj => by
            rcases Nat.lt_or_eq_of_le (show j ≤ i by omega) with h | rfl
            · exact H.out j h
            · exact HE.out), rfl⟩
        case measure => simp [intOf]; omega
      · have hb : (((nthL L i).length : Int) != n) = true := by rw [bne_iff_ne]; exact he
        have HE := Lib.hid he; clear he
        go_wp2_with (go_at_call 97; refine (batch1_any (n := n) (c := c) ((HV.out.row i hlt).drewN m) ((Ext.drewN w m).cell HC.out)).mono ?_; rintro e w' ⟨rfl, m2, rfl⟩)
        go_ret
        exact ⟨i, by rw [fitB_not hlt HE.out]; simp, rfl, _, rfl⟩
    · obtain rfl : i = L.length := by omega
      go_wp2_with fail
      go_ret
      exact ⟨-1, by rw [fitB_of H.out]; rfl, rfl, _, rfl⟩

set_option maxRecDepth 100000 in
theorem contains_any {w : World} {v : Value} {L : List (List Int)} {R : Nat → Value} {n : Int} {c : Nat} (hv : RwsAt w v L R) (hc : w.cell? ⟨c, 0, none⟩ = some (.int .i64 n)) :
    Calls Tryd.prog 96 #[v, .func (Fn.func 97) #[] #[.pointer (some ⟨c, 0, none⟩)]] w (Rd w (.bool (!fitB n L))) := by
  have HV := Lib.hid hv; clear hv
  have HC := Lib.hid hc; clear hc
  go_enter Tryd.func96, Tryd.ntmps96
  go_wp2_with (go_at_call 144; refine (index_any (n := n) (c := c) HV.out HC.out).mono ?_; rintro e w' ⟨r, hr, rfl, m, rfl⟩; have HR := Lib.hid hr; clear hr)
  go_ret
  exact .more _ (ret_bool HR.out)

/-- Is a batch refused? -/
def batBad (n : Int) (l1 : List Int) (L : List (List Int)) : Bool := decide (n < 8) || ((l1.length : Int) != n) || !fitB n L

set_option maxRecDepth 100000 in
set_option maxHeartbeats 1000000 in
theorem batch_bad {w : World} {d : Value} {b : Nat} {n sh r g : Int} (h : DomOf w d (.pointer (some ⟨b, 0, none⟩)) n sh r) (v1 v2 : Value) (l1 : List Int) (L : List (List Int)) (R : Nat → Value) (h1 : Ints w v1 l1) (h2 : RwsAt w v2 L R)
    (hbad : batBad n l1 L = true) :
    Calls Tryd.prog 28 #[d, v1, v2, .int .i64 g] w fun e w' => e = .returned (.tuple #[.slice none 0 0, errv 2]) ∧ Ext w w' := by
  have hl1 := h1.run_len (P := Tryd.prog) slInts
  have H := Lib.hid h; have H1 := Lib.hid h1; have H2 := Lib.hid h2; clear h h1 h2
  rw [errv_pos (by decide)]
  by_cases hn : n < 8
  · clear hbad
    go_enter Tryd.func28, Tryd.ntmps28
    go_wp2_with (go_at_call 95; refine (size_any H.out).mono ?_; rintro e w2 hrd; obtain ⟨rfl, hx2⟩ := hrd.ext; clear hrd)
    go_ret2
    exact ⟨rfl, hx2.trans (Ext.alloc _ _)⟩
  · by_cases hl : (l1.length : Int) = n
    · have hb : ((l1.length : Int) != n) = false := by rw [bne_eq_false_iff_eq]; exact hl
      have hf : fitB n L = false := by
        unfold batBad at hbad
        rw [hb] at hbad
        simpa [hn] using hbad
      clear hbad
      have HL := Lib.hid hl; clear hl
      go_enter Tryd.func28, Tryd.ntmps28
      go_wp2_with (first | (go_at_call 95; refine (size_any H.out).mono ?_; rintro e w2 hrd; obtain ⟨rfl, hx2⟩ := hrd.ext; clear hrd) | (go_at_call 96; refine (contains_any (n := n) (c := w2.heap.size) (H2.out.ext (hx2.trans (Ext.alloc _ _))) (cell_new _ _ _ _)).mono ?_; rw [hf]; rintro e w3 hrd; obtain ⟨rfl, hx3⟩ := hrd.ext; clear hrd))
      go_ret2
      exact ⟨rfl, (hx2.trans (Ext.alloc _ _)).trans hx3⟩
    · have hb : ((l1.length : Int) != n) = true := by rw [bne_iff_ne]; exact hl
      clear hbad hl
      go_enter Tryd.func28, Tryd.ntmps28
      go_wp2_with (go_at_call 95; refine (size_any H.out).mono ?_; rintro e w2 hrd; obtain ⟨rfl, hx2⟩ := hrd.ext; clear hrd)
      go_ret2
      exact ⟨rfl, hx2.trans (Ext.alloc _ _)⟩
end Go.Proofs.YthjemncbphdomaaDoor
