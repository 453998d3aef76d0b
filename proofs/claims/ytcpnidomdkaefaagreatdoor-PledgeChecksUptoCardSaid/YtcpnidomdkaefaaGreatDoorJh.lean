/- What a table fits in; its rows: the document's side: contracts. -/
import Derived.Test.YtcpnidomdkaefaaGreatDoorJg
import Derived.Test.YtcpnidomdkaefaaGreatDoorZx5
import Derived.Test.YtcpnidomdkaefaaGreatDoorJd
namespace Go.Att
open Go.RowKit
/-- Rows of m elements. -/
def rowsL (l : List Int) (m c : Nat) : List (List Int) := (List.range c).map fun i => (l.drop (i * m)).take m
theorem rowsL_length (l : List Int) (m c : Nat) : (rowsL l m c).length = c := by simp [rowsL]
theorem rowsL_nth (l : List Int) (m c i : Nat) (h : i < c) : nthL (rowsL l m c) i = (l.drop (i * m)).take m := by
  unfold nthL rowsL
  simp [List.getD_eq_getElem?_getD, h]
/-- A part of a slice. -/
def sectV (v : Value) (i j : Nat) : Value := match v with
  | .slice a _ cap => sliced a i j cap 1
  | v => v
section
variable {P : Program} {w : World} {v : Value} {l : List Int}
theorem Ints.run_part (h : Ints w v l) {t e bytes : Nat} {z : Value} (ht : SlT P t e 1 bytes z) (i j : Nat) (hij : i ≤ j) (hj : j ≤ l.length) (w' : World) :
    (Instr.sliceAt t v (some (.int .i64 i)) (some (.int .i64 j)) none).run P w' = .ok (sectV v i j) w' := by
  obtain ⟨ao, cap, rfl, h2, h3, h4, h5⟩ := h
  have hu : P.underlying t = some (.slice (P.elem t)) := by rw [ht.und, elem_of ht.und]
  rw [run_sliceAt_slice (h := hu), run_slice_lh (ht := hu) (h0 := by omega) (h1 := by omega) (h2 := by omega), elem_of ht.und, ht.run_size]
  simp [Result.andThen, sectV]
theorem Ints.part (h : Ints w v l) (i j : Nat) (hij : i < j) (hj : j ≤ l.length) : Ints w (sectV v i j) ((l.drop i).take (j - i)) := by
  obtain ⟨ao, cap, rfl, h2, h3, h4, h5⟩ := h
  have hl : ((l.drop i).take (j - i)).length = j - i := by simp; omega
  obtain ⟨b, off, e1, _⟩ := h5 0 (by simp; omega)
  subst e1
  refine ⟨some ⟨b, off + i, none⟩, cap - i, ?_, by simp, by omega, by omega, fun q hq => ?_⟩
  · rw [hl]
    simp only [sectV, sliced, if_neg (show ¬ cap = i by omega), Option.map_some, Addr.add_lit, Nat.mul_one]
  · have hq' : q < j - i := by rw [List.length_map, hl] at hq; exact hq
    obtain ⟨b', off', e1, e2⟩ := h5 (i + q) (by simp; omega)
    injection e1 with e1; injection e1 with e1 e3
    subst e1 e3
    refine ⟨b, off + i, rfl, ?_⟩
    rw [Nat.add_assoc, e2]; simp
theorem sectV_one (h : Ints w v l) (i j : Nat) : (sectV v i j).oneCell' = true := by
  obtain ⟨ao, cap, rfl, _⟩ := h
  unfold sectV sliced
  split <;> (try split) <;> rfl
end
theorem range_snocV (R : Nat → Value) (n : Nat) : (List.range (n + 1)).map R = (List.range n).map R ++ [R n] := by simp [List.range_succ]
end Go.Att
namespace Go.Proofs.YtcpnidomdkaefaaGreatDoor
open Go.RowKit Go.Att
section
variable {w : World}
set_option maxRecDepth 100000 in
set_option maxHeartbeats 4000000 in
theorem rfits_no (p n sh r v : Int) (hv : v < 0) :
    Calls Tryz.prog 20 #[.agg #[.int .i64 p, .int .i64 n, .int .i64 sh, .int .i64 r], .int .i64 v] w fun e w' => e = .returned (.bool false) ∧ Ext w w' := by
  have HX0 := Lib.hid (Ext.alloc w (Obj.cells #[.int .i64 p, .int .i64 n, .int .i64 sh, .int .i64 r] 37))
  go_enter Tryz.func20, Tryz.ntmps20
  go_wp2_with fail
  go_ret
  exact ⟨rfl, HX0.out⟩
set_option maxRecDepth 100000 in
set_option maxHeartbeats 4000000 in
theorem rfits_ok (p n sh r : Int) (v : Nat) (hv : v ≤ 12) (h1 : 1 ≤ n) (h2 : n ≤ 65536) :
    Calls Tryz.prog 20 #[.agg #[.int .i64 p, .int .i64 n, .int .i64 sh, .int .i64 r], .int .i64 v] w fun e w' => e = .returned (.bool (roomB n v)) ∧ Ext w w' := by
  have HX0 := Lib.hid (Ext.alloc w (Obj.cells #[.int .i64 p, .int .i64 n, .int .i64 sh, .int .i64 r] 37))
  have HB := Lib.hid (BlkOf.new w [.int .i64 p, .int .i64 n, .int .i64 sh, .int .i64 r] 37)
  have e1 : (w.alloc (Obj.cells #[.int .i64 p, .int .i64 n, .int .i64 sh, .int .i64 r] 37)).cell? ⟨w.heap.size, 1, none⟩ = some (.int .i64 n) := HB.out.cell 1
  have hq : (v : Int).tdiv 2 = ((v / 2 : Nat) : Int) := by rw [Int.tdiv_eq_ediv_of_nonneg (by omega)]; omega
  obtain ⟨a, ha⟩ : ∃ a, v / 2 = a := ⟨_, rfl⟩
  have hs : (v : Int) - (a : Int) = ((v - a : Nat) : Int) := by omega
  obtain ⟨c, hc⟩ : ∃ c, v - a = c := ⟨_, rfl⟩
  have hc6 : c ≤ 60 := by omega
  have HRM := Lib.hid (show roomB n v = decide ((2 : Int) ^ c ≤ n / 2) from by unfold roomB; rw [ha, hc])
  have hn2 : n.tdiv 2 = n / 2 := Int.tdiv_eq_ediv_of_nonneg (by omega)
  have CT := Lib.hid (rtwo_any c · hc6)
  rw [ha] at hq
  rw [hc] at hs
  clear ha hc
  generalize (2 : Int) ^ c = M at *
  go_enter Tryz.func20, Tryz.ntmps20
  go_wp2_with (go_at_call 49; refine (CT.out _).mono ?_; rintro e w' ⟨rfl, rfl⟩)
  go_ret
  exact ⟨by rw [HRM.out]; trivial, HX0.out⟩
set_option maxRecDepth 100000 in
set_option maxHeartbeats 4000000 in
theorem rrows_any {vt : Value} {l : List Int} (hv : Ints w vt l) (k : Nat) (hk : k ≤ 12) (hl : l.length = 2 ^ k) :
    Calls Tryz.prog 76 #[vt, .int .i64 k] w (Gives w fun u w' => Rws w' u (rowsL l (2 ^ (k - k / 2)) (2 ^ (k / 2)))) := by
  have hq : (k : Int).tdiv 2 = ((k / 2 : Nat) : Int) := by rw [Int.tdiv_eq_ediv_of_nonneg (by omega)]; omega
  obtain ⟨a, ha⟩ : ∃ a, k / 2 = a := ⟨_, rfl⟩
  have hs : (k : Int) - (a : Int) = ((k - a : Nat) : Int) := by omega
  obtain ⟨c, hc⟩ : ∃ c, k - a = c := ⟨_, rfl⟩
  have hc6 : c ≤ 60 := by omega
  have CT := Lib.hid (rtwo_any c · hc6)
  rw [ha, hc]
  rw [ha] at hq
  rw [hc] at hs
  have hcc : l.length = 2 ^ a * 2 ^ c := by rw [hl, ← Nat.pow_add]; congr 1; omega
  have hlb : l.length ≤ 4096 := by
    rw [hl]
    exact Nat.le_trans (Nat.pow_le_pow_right (by decide) hk) (by decide)
  have hM1 : 1 ≤ 2 ^ c := Nat.one_le_two_pow
  rw [show (2 : Int) ^ c = ((2 ^ c : Nat) : Int) by simp] at CT
  generalize 2 ^ c = M at *
  generalize 2 ^ a = C at *
  have HV := Lib.hid hv
  have HLC := Lib.hid hcc
  have hll := hv.run_len (P := Tryz.prog) slInts
  obtain ⟨N, hN⟩ : ∃ N, l.length = N := ⟨_, rfl⟩
  have HN := Lib.hid hN
  rw [hN] at hll hlb
  have HNC := Lib.hid (hN.symm.trans hcc)
  have HM := Lib.hid hM1
  clear hv ha hc hcc hl hN
  go_enter Tryz.func76, Tryz.ntmps76
  go_wp2_with (go_at_call 49; refine (CT.out _).mono ?_; rintro e w' ⟨rfl, rfl⟩)
  go_loopw [6, 7] (fun x6 x7 wr => ∃ i j : Nat, i ≤ C ∧ j = i * M ∧ x7 = .int .i64 j ∧ Hid (wr.ownsRow w.heap.size 22 1 x6 i ((List.range i).map fun q => sectV vt (q * M) (q * M + M))) ∧ Hid (Ext w wr)) (fun _ x7 _ => N - (intOf x7).toNat)
  case atStart => exact ⟨0, 0, Nat.zero_le _, by simp, rfl, Lib.hid (World.ownsRow_nil _ _ _ _), Lib.hid (Ext.refl _)⟩
  case round =>
    obtain ⟨i, j, hi, hj, rfl, HO, HX⟩ := hrel
    by_cases hlt : i < C
    · have hjM : j + M ≤ N := by
        have h1 := Nat.mul_le_mul_right M (show i + 1 ≤ C from hlt)
        rw [Nat.succ_mul, ← hj] at h1
        have h2 := HNC.out; omega
      have hM1 := HM.out
      have hpt := fun w' => HV.out.run_part (P := Tryz.prog) slInts j (j + M) (by omega) (by rw [HN.out]; exact hjM) w'
      obtain ⟨ap, cp, hsh⟩ := (HV.out.part j (j + M) (by omega) (by rw [HN.out]; exact hjM)).shape
      generalize ((l.drop j).take (j + M - j)).length = np at hsh
      rw [hsh] at hpt
      rw [show ((j + M : Nat) : Int) = (j : Int) + (M : Int) by omega] at hpt
      have HJ := Lib.hid (show Value.slice ap np cp = sectV vt (i * M) (i * M + M) by rw [← hsh, hj])
      have HJ2 := Lib.hid (show j + M = (i + 1) * M by rw [hj, Nat.succ_mul])
      have hC : C ≤ 4294967290 := by
        have h3 := Nat.le_mul_of_pos_right C (show 0 < M by omega)
        have h2 := HNC.out; omega
      clear hj hsh
      go_wp2_with (at_builtin; refine wpList_app1 rfl _ _ 23 rfl slRows rfl HX.out HO.out rfl _ rfl rfl (by omega) (by omega) ?_; intro v' w2 HO' HX' _; have HO2 := Lib.hid HO'; clear HO')
      go_roundw
      case rel => exact ⟨i + 1, j + M, by omega, HJ2.out, by go_num, Lib.hid (by rw [range_snocV, ← HJ.out]; exact HO2.out), Lib.hid HX'⟩
      case measure => simp [intOf]; omega
    · obtain rfl : i = C := by omega
      have hjN : j = N := by rw [hj]; exact HNC.out.symm
      have HJ := Lib.hid hj
      subst hjN
      clear hj
      go_wp2_with fail
      go_ret
      refine .mk _ rfl HX.out ⟨fun q => sectV vt (q * M) (q * M + M), by rw [rowsL_length]; exact Sl.of_own HO.out (by omega), fun q hq => ?_⟩
      rw [rowsL_length] at hq
      rw [rowsL_nth _ _ _ _ hq]
      have h1 := Nat.mul_le_mul_right M (show q + 1 ≤ i from hq)
      rw [Nat.succ_mul] at h1
      have h3 := HM.out
      have := (HV.out.ext HX.out).part (q * M) (q * M + M) (by omega) (by rw [HN.out, HJ.out]; exact h1)
      rw [Nat.add_sub_cancel_left] at this
      exact this
end
end Go.Proofs.YtcpnidomdkaefaaGreatDoor
