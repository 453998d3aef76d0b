/- What a run tells of a cell: contract. -/
import Derived.Test.YtaodmkngakikjaaMm
import Derived.Test.YtaodmkngakikjaaMn
namespace Go.Att
open Go.RowKit
theorem nthP_succ (c : Int × Int) (L : List (Int × Int)) (i : Nat) : nthP (c :: L) (i + 1) = nthP L i := by simp [nthP]
theorem nthP_zero (c : Int × Int) (L : List (Int × Int)) : nthP (c :: L) 0 = c := by simp [nthP]
theorem lk_cons (c : Int × Int) (L : List (Int × Int)) (a : Int) : lk (c :: L) a = if c.1 = a then some c.2 else lk L a := by
  unfold lk
  rw [List.find?_cons]
  by_cases h : c.1 = a
  · simp [h]
  · have hb : (c.1 == a) = false := beq_eq_false_iff_ne.2 h
    rw [hb, if_neg h]
theorem lk_first : ∀ (L : List (Int × Int)) (i : Nat) (a : Int), i < L.length → (∀ j, j < i → (nthP L j).1 ≠ a) → (nthP L i).1 = a → lk L a = some (nthP L i).2
  | [], i, a, h, _, _ => by simp at h
  | c :: L, 0, a, _, _, h => by rw [nthP_zero] at h ⊢; rw [lk_cons, if_pos h]
  | c :: L, i + 1, a, h, h1, h2 => by
    have h0 := h1 0 (by omega)
    rw [nthP_zero] at h0
    rw [nthP_succ] at h2 ⊢
    rw [lk_cons, if_neg h0]
    exact lk_first L i a (by simpa using h) (fun j hj => by have := h1 (j + 1) (by omega); rwa [nthP_succ] at this) h2
theorem lk_nowhere : ∀ (L : List (Int × Int)) (a : Int), (∀ j, j < L.length → (nthP L j).1 ≠ a) → lk L a = none
  | [], a, _ => rfl
  | c :: L, a, h => by
    have h0 := h 0 (by simp)
    rw [nthP_zero] at h0
    rw [lk_cons, if_neg h0]
    exact lk_nowhere L a (fun j hj => by have := h (j + 1) (by simpa using hj); rwa [nthP_succ] at this)
theorem inc_lk : ∀ (L : List (Int × Int)), L.Pairwise (fun x y => x.1 < y.1) → ∀ c ∈ L, lk L c.1 = some c.2
  | [], _, c, h => by cases h
  | d :: L, hp, c, h => by
    rw [List.pairwise_cons] at hp
    rw [List.mem_cons] at h
    rw [lk_cons]
    rcases h with rfl | h
    · rw [if_pos rfl]
    · have := hp.1 c h
      rw [if_neg (by omega)]
      exact inc_lk L hp.2 c h
/-- What is told of a cell of a step. -/
def ToldIs (L : List (Int × Int)) (a r : Int) : Prop := (a = 0 ∧ r = 0) ∨ (a ≠ 0 ∧ lk L a = some r)
theorem told_is {p sz lim : Int} {cd : List In4} {l : List Stp} {out : Int} {mem L : List (Int × Int)} (hp : 2 ≤ p) (h : walkM p sz cd lim = .done l out mem) (hc : CellsOf mem L) : ∀ t ∈ l, ∀ j, ToldIs L (accA t.acc j) (accI t.acc j) := by
  obtain ⟨h1, h0⟩ := walkM_told hp h
  obtain ⟨hen, _, _⟩ := walkM_ended hp h
  intro t ht j
  have hl := h1 t ht j
  by_cases ha : accA t.acc j = 0
  · refine .inl ⟨ha, ?_⟩
    rw [ha, h0] at hl
    injection hl with hl
    exact hl.symm
  · have hm := lk_mem hl
    have hge : 0 ≤ accA t.acc j := (hen.bd _ hm).1.1
    exact .inr ⟨ha, inc_lk L hc.inc _ ((hc.iff _).2 ⟨hm, show 0 < accA t.acc j by omega⟩)⟩
end Go.Att
namespace Go.Proofs.Ytaodmkngakikjaa
open Go.RowKit Go.Att
set_option maxRecDepth 100000 in
set_option maxHeartbeats 4000000 in
theorem told6_any {w : World} {out n a r : Int} {v : Value} {L : List (Int × Int)} (hv : Prs w v L) (hr : ToldIs L a r) : Calls Try.prog 9 #[.agg #[.int .i64 out, .int .i64 n, v], .int .i64 a] w fun e w' => e = .returned (.int .i64 r) ∧ Ext w w' := by
  obtain ⟨av, cv, rfl⟩ := prs_shape hv
  have hln := hv.len
  have hlv := hv.run_len (P := Try.prog) slCellM 3
  have hx := Ext.alloc w (Obj.cells #[.int .i64 out, .int .i64 n, .slice av L.length cv] 30)
  have HV := Lib.hid (hv.ext hx); have HX := Lib.hid hx
  have HB := Lib.hid (BlkOf.new w [.int .i64 out, .int .i64 n, .slice av L.length cv] 30)
  clear hv hx
  rcases hr with ⟨rfl, rfl⟩ | ⟨ha, hr⟩
  · go_enter Try.func9, Try.ntmps9
    go_wp2_with fail
    go_ret
    exact ⟨rfl, HX.out⟩
  · have HR := Lib.hid hr
    have hab : (a == 0) = false := by rw [beq_eq_false_iff_ne]; exact ha
    clear hr ha
    go_enter Try.func9, Try.ntmps9
    go_upto_region 1 with (fail)
    generalize w.alloc (Obj.cells #[.int .i64 out, .int .i64 n, .slice av L.length cv] 30) = W at *
    generalize w.heap.size = k1 at *
    have a2 : W.cell? ⟨k1, 2, none⟩ = some (.slice av L.length cv) := HB.out.cell 2
    clear HB
    go_wp2_with fail
    go_loopw [5] (fun x5 wr => ∃ i : Nat, x5 = .int .i64 i ∧ i ≤ L.length ∧ Hid (∀ j, j < i → (nthP L j).1 ≠ a) ∧ wr = W) (fun x5 _ => L.length - (intOf x5).toNat)
    case atStart => exact ⟨0, rfl, Nat.zero_le _, Lib.hid (fun j hj => by omega), rfl⟩
    case round =>
      obtain ⟨i, rfl, hi, HN, rfl⟩ := hrel
      by_cases hlt : i < L.length
      · have hia := HV.out.run_index (P := Try.prog) slCellM i hlt
        have d0 := HV.out.fst i hlt
        have d1 := HV.out.snd i hlt
        by_cases h1 : (nthP L i).1 = a
        · have hb : ((nthP L i).1 == a) = true := by rw [beq_iff_eq]; exact h1
          have HE := Lib.hid (show (nthP L i).2 = r by have := lk_first L i a hlt HN.out h1; rw [HR.out] at this; injection this with this; exact this.symm)
          clear h1
          go_wp2_with fail
          go_ret
          exact ⟨ret_int HE.out, HX.out⟩
        · have hb : ((nthP L i).1 == a) = false := by rw [beq_eq_false_iff_ne]; exact h1
          have HN1 := Lib.hid (show ∀ j, j < i + 1 → (nthP L j).1 ≠ a from fun j hj => by
            rcases Nat.lt_or_eq_of_le (show j ≤ i by omega) with h | rfl
            · exact HN.out j h
            · exact h1)
          clear h1
          go_wp2_with fail
          go_roundw
          case rel => exact ⟨i + 1, by go_num, by omega, HN1, trivial⟩
          case measure => simp [intOf]; omega
      · obtain rfl : i = L.length := by omega
        have := lk_nowhere L a HN.out
        rw [HR.out] at this; cases this
end Go.Proofs.Ytaodmkngakikjaa
