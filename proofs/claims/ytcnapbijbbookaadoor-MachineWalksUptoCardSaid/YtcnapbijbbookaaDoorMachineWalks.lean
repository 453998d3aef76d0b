/- MachineWalks: ANY CODE, step by step: the law's walk: for every input it returns true and leaves all that was there as it was. -/
import Derived.Test.YtcnapbijbbookaaDoorMh
import Derived.Test.YtcnapbijbbookaaDoorMg
import Derived.Test.YtcnapbijbbookaaDoorEr
import Derived.Test.YtcnapbijbbookaaDoorFc
import Derived.Test.YtcnapbijbbookaaDoorKi
import Derived.ProofKit
namespace Go.Att
open Go.RowKit
/-- A stop has a number. -/
def NZ (r : Rs) : Prop := ∀ k, r = .no k → k ≠ 0
theorem nz_no {k : Int} (h : k ≠ 0) : NZ (.no k) := by
  intro j e; injection e with e; rw [← e]; exact h
theorem nz_go {v : Int} {s : Ms} : NZ (.go v s) := fun _ e => by cases e
theorem nz_look (s : Ms) (i : Int) : NZ (s.look i) := by
  unfold Ms.look
  split
  · exact nz_no (by decide)
  · exact nz_go
theorem nz_tell (s : Ms) (i x : Int) : NZ (s.tell i x) := by
  unfold Ms.tell
  split
  · split
    · exact nz_go
    · exact nz_no (by decide)
  · exact nz_go
theorem nz_bind {r : Rs} {f : Int → Ms → Rs} (h : NZ r) (h2 : ∀ v s, NZ (f v s)) : NZ (r.bind f) := by
  cases r with
  | go v s => exact h2 v s
  | no e => exact fun k hk => h k hk
theorem nz_one (p : Int) (s : Ms) (x : In4) : NZ (s.one p x) := by
  unfold Ms.one
  have hto : ∀ n u t, NZ (Ms.to n u t) := fun _ _ _ => nz_go
  split
  · refine nz_bind ?_ (fun _ _ => hto _ _ _)
    unfold Ms.comp
    refine nz_bind (nz_look _ _) (fun u t => nz_bind (nz_look _ _) (fun v t2 => ?_))
    split
    · exact nz_no (by decide)
    · exact nz_tell _ _ _
  split
  · exact nz_bind (nz_tell _ _ _) (fun _ _ => hto _ _ _)
  split
  · refine nz_bind (nz_look _ _) (fun u t => nz_bind (nz_look _ _) (fun v t2 => ?_))
    split
    · exact hto _ _ _
    · exact nz_no (by decide)
  split
  · exact hto _ _ _
  split
  · exact nz_bind (nz_look _ _) (fun _ _ => hto _ _ _)
  split
  · exact nz_bind (nz_tell _ _ _) (fun _ _ => nz_bind (nz_tell _ _ _) (fun _ _ => nz_go))
  split
  · exact nz_bind (nz_look _ _) (fun _ _ => nz_bind (nz_look _ _) (fun _ _ => nz_bind (nz_look _ _) (fun _ _ => nz_go)))
  split
  · exact nz_bind (nz_tell _ _ _) (fun _ _ => hto _ _ _)
  split
  · exact nz_bind (nz_look _ _) (fun _ _ => nz_bind (nz_tell _ _ _) (fun _ _ => hto _ _ _))
  exact nz_no (by decide)
theorem runM_nz (p : Int) (cd : List In4) (n : Nat) : ∀ (l : List Stp) (s : Ms) (k : Int), runM p cd n l s = .no k → k ≠ 0 := by
  induction n with
  | zero =>
    intro l s k h
    unfold runM at h
    split at h
    · injection h with h; omega
    split at h
    · split at h
      · rename_i e he
        injection h with h; subst h
        exact nz_look _ _ _ he
      · cases h
    · injection h with h; omega
  | succ n ih =>
    intro l s k h
    unfold runM at h
    split at h
    · injection h with h; omega
    split at h
    · split at h
      · rename_i e he
        injection h with h; subst h
        exact nz_look _ _ _ he
      · cases h
    · split at h
      · rename_i e he
        injection h with h; subst h
        exact nz_one _ _ _ _ he
      · exact ih _ _ _ h
theorem walkM_nz {p sz lim : Int} {cd : List In4} {k : Int} (h : walkM p sz cd lim = .no k) : k ≠ 0 := by
  unfold walkM at h
  split at h
  · exact runM_nz _ _ _ _ _ _ h
  · rename_i hf
    injection h with h; subst h
    exact hf
/-- All cells of steps are numbers. -/
theorem flatS_int (l : List Stp) (j : Nat) (h : j < l.length * 10) : ∃ x : Int, (flatS l)[j]? = some (.int .i64 x) := by
  have hj : j < (flatS l).length := by rw [flatS_length]; exact h
  have hm := List.getElem_mem hj
  unfold flatS at hm
  rw [List.mem_flatMap] at hm
  obtain ⟨t, _, hm⟩ := hm
  rw [List.mem_map] at hm
  obtain ⟨x, _, hx⟩ := hm
  exact ⟨x, by rw [List.getElem?_eq_getElem hj]; exact congrArg some hx.symm⟩
section
variable {w : World} {v : Value} {l : List Stp} {x : Value}
theorem stp_c0 (h : Sl w 10 v l.length (flatS l)) (i : Nat) (hi : i < l.length) (hx : (flatS l)[i * 10]? = some x) : w.cell? (elt v i 10) = some x := by
  have := Sl.cell h i 0 hi (by omega)
  simp only [Addr.add, if_true, Nat.add_zero] at this
  rw [this, hx]
theorem stp_c (h : Sl w 10 v l.length (flatS l)) (i k : Nat) (hi : i < l.length) (hk : k < 10) (h0 : k ≠ 0) (hx : (flatS l)[i * 10 + k]? = some x) : w.cell? ⟨(elt v i 10).block, (elt v i 10).off + k, none⟩ = some x := by
  have := Sl.cell h i k hi hk
  simp only [Addr.add] at this
  rw [if_neg h0] at this
  rw [this, hx]
end
end Go.Att
namespace Go.Proofs.YtcnapbijbbookaaDoor
open Go.RowKit Go.Att
/-- Two equal arrays of three numbers. -/
theorem run_eq_arr3 {P : Program} {t e : TypeId} (ht : P.underlying t = some (.array 3 e)) (hi : (P.info? e).isSome = true) (he : P.underlying e = some (.int .i64)) (hz : P.cellsOf e = 1) (ha : ∀ w, (isAgg e).run P w = .ok false w) (d : Nat) (a b c : Int) (w : World) :
    (Op.equalIn (d + 2) t (.agg #[.int .i64 a, .int .i64 b, .int .i64 c]) (.agg #[.int .i64 a, .int .i64 b, .int .i64 c])).run P w = .ok true w := by
  obtain ⟨i, hi⟩ := Option.isSome_iff_exists.1 hi
  rw [run_equalIn_array w (d + 1) _ _ ht hi, hz]
  simp [Op.eqItems, List.range, List.range.loop, go_sem, ha, run_equalIn_int _ d e .i64 .i64 _ _ he]
theorem eq_arr3 (a b c : Int) (w : World) : (Op.equalIn 9999 37 (.agg #[.int .i64 a, .int .i64 b, .int .i64 c]) (.agg #[.int .i64 a, .int .i64 b, .int .i64 c])).run Tryd.prog w = .ok true w :=
  run_eq_arr3 Tryd.underlying37 (by kernel_rfl) Tryd.underlying3 (by kernel_rfl) (fun w => by simp [go_sem]) 9997 a b c w
set_option maxRecDepth 100000 in
set_option maxHeartbeats 4000000 in
theorem machineWalks_bad (p : Int) (cv : Value) (lim : Int) (w : World) (h : ¬ okP p) (hg : Hnd w) (sz : Int) (lv : Value) (hcv : cv = .agg #[.int .i64 sz, lv]) :
    Calls Tryd.prog 3 #[.int .i64 p, cv, .int .i64 lim] w fun e w' => e = .returned (.bool true) ∧ Ext w w' := by
  subst hcv
  have H := Lib.hid h; have HG := Lib.hid hg; clear h hg
  have HX0 := Lib.hid (Ext.alloc w (Obj.cells #[.int .i64 sz, lv] 24))
  go_enter Tryd.func3, Tryd.ntmps3
  go_wp2_with (go_at_call 6; refine (sfield_bad _ _ H.out (HG.out.ext HX0.out)).mono ?_; rintro e w' ⟨v, rfl, hx, rfl⟩)
  go_ret
  exact ⟨rfl, HX0.out.trans hx⟩
set_option maxRecDepth 100000 in
set_option maxHeartbeats 8000000 in
theorem machineWalks_ok (p sz : Int) (lv : Value) (cd : List In4) (lim : Int) (w : World) (h : okP p) (hg : Hnd w) (hc : Inqs w lv cd) :
    Calls Tryd.prog 3 #[.int .i64 p, .agg #[.int .i64 sz, lv], .int .i64 lim] w fun e w' => e = .returned (.bool true) ∧ Ext w w' := by
  have H := Lib.hid h; have HG := Lib.hid hg
  obtain ⟨hp, lo, hi⟩ := h
  have HC := Lib.hid hc
  obtain ⟨al, cl, rfl⟩ := hc.shape
  have HB := Lib.hid ((C2.new w (.int .i64 sz) (.slice al cd.length cl) 24))
  have HX0 := Lib.hid (Ext.alloc w (Obj.cells #[.int .i64 sz, .slice al cd.length cl] 24))
  clear hg hp hc
  go_enter Tryd.func3, Tryd.ntmps3
  go_wp2_with fail
  generalize hqb : w.heap.size = qb at *
  clear hqb
  generalize w.alloc (Obj.cells #[.int .i64 sz, .slice al cd.length cl] 24) = W at *
  refine (sfield_ok _ _ H.out (HG.out.ext HX0.out)).mono ?_
  rintro e w1 ⟨v1, rfl, hx, f, g, rfl, hf⟩
  obtain ⟨bf, rfl⟩ := hf.ptr
  obtain ⟨fs, hfl⟩ := hf.fld
  have HF := Lib.hid hfl
  have HX := Lib.hid (HX0.out.trans hx)
  have HB1 := Lib.hid (HB.out.ext hx)
  have e0 := HB1.out.c0
  have e1 := HB1.out.c1
  clear hf hfl hx HB HX0
  go_wp2_with fail
  refine (mwalk_any (sz := sz) (lim := lim) HF.out (HC.out.ext HX.out)).mono ?_
  rintro e w2 hpw
  have HD := Lib.hid (fun w (hc : Inqs w (.slice al cd.length cl) cd) => dwalk_any (sz := sz) (lim := lim) hc lo hi)
  cases hR : walkM p sz cd lim with
  | no k =>
    have hk := walkM_nz hR
    rw [hR] at hpw HD
    obtain ⟨rfl, hx2⟩ := hpw
    have HX2 := Lib.hid (HX.out.trans hx2)
    have HB2 := Lib.hid (HB1.out.ext hx2)
    clear e0 e1 hx2 HX HF HB1 hR
    have e0 := HB2.out.c0
    have e1 := HB2.out.c1
    go_wp2_with fail
    refine (HD.out w2 (HC.out.ext HX2.out)).mono ?_
    rintro e w3 ⟨rfl, hx3⟩
    have HX3 := Lib.hid (HX2.out.trans hx3)
    clear e0 e1 hx3 HX2 HB2
    have C := error_any k k w3 (HG.out.ext HX3.out)
    rw [errv_pos hk] at C
    have HCC := Lib.hid C
    clear C
    go_wp2_with fail
    refine HCC.out.mono ?_
    rintro e w4 ⟨rfl, hx4⟩
    have HX4 := Lib.hid (HX3.out.trans hx4)
    clear hx4 HX3 HCC
    go_wp2_with fail
    go_loopw [15] (fun x15 wr => x15 = .int .i64 0 ∧ wr = w4) (fun _ _ => 0)
    case atStart => exact ⟨rfl, rfl⟩
    case round =>
      obtain ⟨rfl, rfl⟩ := hrel
      go_wp2_with fail
      go_ret
      exact ⟨rfl, HX4.out⟩
  | done l out mem =>
    rw [hR] at hpw HD
    obtain ⟨sv, rfl, hsv, hlen, hx2⟩ := hpw
    have HX2 := Lib.hid (HX.out.trans hx2)
    have HB2 := Lib.hid (HB1.out.ext hx2)
    have HS := Lib.hid hsv
    clear e0 e1 hx2 HX HF HB1 hR hsv
    have e0 := HB2.out.c0
    have e1 := HB2.out.c1
    go_wp2_with fail
    refine (HD.out w2 (HC.out.ext HX2.out)).mono ?_
    rintro e w3 ⟨dv, cv, rfl, hdv, _, _, hx3⟩
    have HX3 := Lib.hid (HX2.out.trans hx3)
    have HS3 := Lib.hid (HS.out.ext hx3)
    have HD3 := Lib.hid (Sl.of_own hdv (by omega))
    clear e0 e1 hx3 HX2 HB2 HS hdv
    have C := error_any 0 0 w3 (HG.out.ext HX3.out)
    rw [errv_zero] at C
    have HCC := Lib.hid C
    clear C
    go_wp2_with fail
    refine HCC.out.mono ?_
    rintro e w4 ⟨rfl, hx4⟩
    have HX4 := Lib.hid (HX3.out.trans hx4)
    have HS4 := Lib.hid (HS3.out.ext hx4)
    have HD4 := Lib.hid (HD3.out.ext hx4)
    have hls := HS4.out.run_len (P := Tryd.prog) slStep
    have hld := HD4.out.run_len (P := Tryd.prog) slStep
    clear hx4 HX3 HCC HS3 HD3
    go_wp2_with fail
    go_loopw [15] (fun x15 wr => ∃ i m : Nat, x15 = .int .i64 i ∧ i ≤ l.length ∧ wr = w4.drewN m) (fun x15 _ => l.length - (intOf x15).toNat)
    case atStart => exact ⟨0, 0, rfl, Nat.zero_le _, rfl⟩
    case round =>
      obtain ⟨i, m, rfl, hi1, rfl⟩ := hrel
      by_cases hlt : i < l.length
      · have hia := HS4.out.run_index (P := Tryd.prog) slStep i (by omega) (by omega)
        have hib := HD4.out.run_index (P := Tryd.prog) slStep i (by omega) (by omega)
        obtain ⟨x0, q0⟩ := flatS_int l (i * 10) (by omega)
        obtain ⟨x1, q1⟩ := flatS_int l (i * 10 + 1) (by omega)
        obtain ⟨x2, q2⟩ := flatS_int l (i * 10 + 2) (by omega)
        obtain ⟨x3, q3⟩ := flatS_int l (i * 10 + 3) (by omega)
        obtain ⟨x4, q4⟩ := flatS_int l (i * 10 + 4) (by omega)
        obtain ⟨x5, q5⟩ := flatS_int l (i * 10 + 5) (by omega)
        obtain ⟨x6, q6⟩ := flatS_int l (i * 10 + 6) (by omega)
        obtain ⟨x7, q7⟩ := flatS_int l (i * 10 + 7) (by omega)
        obtain ⟨x8, q8⟩ := flatS_int l (i * 10 + 8) (by omega)
        obtain ⟨x9, q9⟩ := flatS_int l (i * 10 + 9) (by omega)
        have a0 := stp_c0 HS4.out i hlt q0
        have a1 := stp_c HS4.out i 1 hlt (by omega) (by omega) q1
        have a2 := stp_c HS4.out i 2 hlt (by omega) (by omega) q2
        have a3 := stp_c HS4.out i 3 hlt (by omega) (by omega) q3
        have a4 := stp_c HS4.out i 4 hlt (by omega) (by omega) q4
        have a5 := stp_c HS4.out i 5 hlt (by omega) (by omega) q5
        have a6 := stp_c HS4.out i 6 hlt (by omega) (by omega) q6
        have a7 := stp_c HS4.out i 7 hlt (by omega) (by omega) q7
        have a8 := stp_c HS4.out i 8 hlt (by omega) (by omega) q8
        have a9 := stp_c HS4.out i 9 hlt (by omega) (by omega) q9
        have d0 := stp_c0 HD4.out i hlt q0
        have d1 := stp_c HD4.out i 1 hlt (by omega) (by omega) q1
        have d2 := stp_c HD4.out i 2 hlt (by omega) (by omega) q2
        have d3 := stp_c HD4.out i 3 hlt (by omega) (by omega) q3
        have d4 := stp_c HD4.out i 4 hlt (by omega) (by omega) q4
        have d5 := stp_c HD4.out i 5 hlt (by omega) (by omega) q5
        have d6 := stp_c HD4.out i 6 hlt (by omega) (by omega) q6
        have d7 := stp_c HD4.out i 7 hlt (by omega) (by omega) q7
        have d8 := stp_c HD4.out i 8 hlt (by omega) (by omega) q8
        have d9 := stp_c HD4.out i 9 hlt (by omega) (by omega) q9
        clear q0 q1 q2 q3 q4 q5 q6 q7 q8 q9
        have harr := eq_arr3
        go_wp2_with fail
        go_quiet (fail)
        go_wp2_with fail
        go_roundw
        case rel => exact ⟨i + 1, _, by go_num, by omega, rfl⟩
        case measure => simp [intOf]; omega
      · obtain rfl : i = l.length := by omega
        go_wp2_with fail
        go_ret
        exact ⟨rfl, HX4.out.trans (Ext.drewN _ _)⟩
end Go.Proofs.YtcnapbijbbookaaDoor
