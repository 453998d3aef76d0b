/- RulesTables: A TABLE AND THE DOCUMENT'S: the law's walk: for every input it returns true and leaves all that was there as it was. -/
import Derived.Test.YtainhfnanamobaaGreatDoorTi
import Derived.Test.YtainhfnanamobaaGreatDoorTf
import Derived.Test.YtainhfnanamobaaGreatDoorSa
import Derived.Test.YtainhfnanamobaaGreatDoorFc
import Derived.Test.YtainhfnanamobaaGreatDoorKi
import Derived.ProofKit
namespace Go.Att
open Go.RowKit
theorem tableM_nz {p sz n k : Int} {cd : List In4} (h : tableM p sz cd n = .no k) : k ≠ 0 := by
  unfold tableM at h
  split at h
  · simp only [Tr.no.injEq] at h; omega
  · cases hR : walkM p sz cd (n - 1) with
    | no j =>
      rw [hR] at h
      simp only [Tr.no.injEq] at h
      have := walkM_nz hR
      omega
    | done l o mem =>
      rw [hR] at h
      dsimp only at h
      split at h
      · simp only [Tr.no.injEq] at h; omega
      · cases h
end Go.Att
namespace Go.Proofs.YtainhfnanamobaaGreatDoor
open Go.RowKit Go.Att
set_option maxRecDepth 100000 in
set_option maxHeartbeats 4000000 in
theorem rulesTables_bad (p : Int) (cv : Value) (n : Int) (w : World) (h : ¬ okP p) (hg : Hnd w) (sz : Int) (lv : Value) (hcv : cv = .agg #[.int .i64 sz, lv]) :
    Calls Tryz.prog 4 #[.int .i64 p, cv, .int .i64 n] w fun e w' => e = .returned (.bool true) ∧ Ext w w' := by
  subst hcv
  have H := Lib.hid h; have HG := Lib.hid hg; clear h hg
  have HX0 := Lib.hid (Ext.alloc w (Obj.cells #[.int .i64 sz, lv] 24))
  go_enter Tryz.func4, Tryz.ntmps4
  go_wp2_with (go_at_call 6; refine (sfield_bad _ _ H.out (HG.out.ext HX0.out)).mono ?_; rintro e w' ⟨v, rfl, hx, rfl⟩)
  go_ret
  exact ⟨rfl, HX0.out.trans hx⟩
set_option maxRecDepth 100000 in
set_option maxHeartbeats 8000000 in
theorem rulesTables_ok (p sz : Int) (lv : Value) (cd : List In4) (n : Int) (w : World) (h : okP p) (hg : Hnd w) (hc : Inqs w lv cd) (hs : cd.length ≤ 1048576) :
    Calls Tryz.prog 4 #[.int .i64 p, .agg #[.int .i64 sz, lv], .int .i64 n] w fun e w' => e = .returned (.bool true) ∧ Ext w w' := by
  have H := Lib.hid h; have HG := Lib.hid hg
  obtain ⟨hp, lo, hi⟩ := h
  have HC := Lib.hid hc
  have hll := fun w' => hc.run_len (P := Tryz.prog) slIns 3 w'
  obtain ⟨al, cl, rfl⟩ := hc.shape
  have HB := Lib.hid ((C2.new w (.int .i64 sz) (.slice al cd.length cl) 24))
  have HX0 := Lib.hid (Ext.alloc w (Obj.cells #[.int .i64 sz, .slice al cd.length cl] 24))
  clear hg hp hc
  go_enter Tryz.func4, Tryz.ntmps4
  go_wp2_with fail
  generalize hqb : w.heap.size = qb at *
  clear hqb
  generalize w.alloc (Obj.cells #[.int .i64 sz, .slice al cd.length cl] 24) = W at *
  refine (sfield_ok _ _ H.out (HG.out.ext HX0.out)).mono ?_
  rintro e w1 ⟨v1, rfl, hx, f, g, rfl, hf⟩
  obtain ⟨bf, rfl⟩ := hf.ptr
  obtain ⟨fs, hfl⟩ := hf.fld
  have HF := Lib.hid hfl
  have HX := Lib.hid (HX0.out.trans hx)
  have HB1 := Lib.hid (HB.out.ext hx)
  have e0 := HB1.out.c0
  have e1 := HB1.out.c1
  clear hf hfl hx HB HX0
  go_wp2_with fail
  refine (table_any (sz := sz) (n := n) HF.out (HC.out.ext HX.out)).mono ?_
  rintro e w2 hpw
  have HD := Lib.hid (fun w (hc : Inqs w (.slice al cd.length cl) cd) => dtable_any (sz := sz) (n := n) hc lo hi)
  cases hR : tableM p sz cd n with
  | no k =>
    have hk := tableM_nz hR
    rw [hR] at hpw HD
    obtain ⟨rfl, hx2⟩ := hpw
    have HX2 := Lib.hid (HX.out.trans hx2)
    have HB2 := Lib.hid (HB1.out.ext hx2)
    clear e0 e1 hx2 HX HF HB1 hR
    have e0 := HB2.out.c0
    have e1 := HB2.out.c1
    go_wp2_with fail
    refine (HD.out w2 (HC.out.ext HX2.out)).mono ?_
    rintro e w3 ⟨rfl, hx3⟩
    have HX3 := Lib.hid (HX2.out.trans hx3)
    have HB3 := Lib.hid (HB2.out.ext hx3)
    clear e0 e1 hx3 HX2 HB2
    have C := error_any k k w3 (HG.out.ext HX3.out)
    rw [errv_pos hk, show (k == k) = true from beq_self_eq_true k] at C
    have HCC := Lib.hid C
    clear C
    go_wp2_with fail
    refine HCC.out.mono ?_
    rintro e w4 ⟨rfl, hx4⟩
    have HX4 := Lib.hid (HX3.out.trans hx4)
    have HB4 := Lib.hid (HB3.out.ext hx4)
    clear hx4 HX3 HCC HB3
    go_wp2_with fail
    have C := srows_any (.slice none 0 0) (.slice none 0 0) [] [] w4 (Rws.nil _) (Rws.nil _)
    rw [show decide (([] : List (List Int)) = []) = true from decide_eq_true rfl] at C
    refine C.mono ?_
    rintro e w5 hrd
    obtain ⟨rfl, hx5⟩ := hrd.ext
    have HX5 := Lib.hid (HX4.out.trans hx5)
    have HB5 := Lib.hid (HB4.out.ext hx5)
    clear hrd hx5 HX4 HB4 C
    have e0 := HB5.out.c0
    have e1 := HB5.out.c1
    go_wp2_with fail
    refine (twidth_any sz _ cd w5 (HC.out.ext HX5.out) hs).mono ?_
    rintro e w6 ⟨rfl, hx6⟩
    have HX6 := Lib.hid (HX5.out.trans hx6)
    have HB6 := Lib.hid (HB5.out.ext hx6)
    clear e0 e1 hx6 HX5 HB5
    have e1 := HB6.out.c1
    go_wp2_with fail
    go_ret
    exact ⟨rfl, HX6.out⟩
  | ok T out =>
    rw [hR] at hpw HD
    obtain ⟨tv, rfl, htv, hx2⟩ := hpw
    have HX2 := Lib.hid (HX.out.trans hx2)
    have HB2 := Lib.hid (HB1.out.ext hx2)
    have HT := Lib.hid htv
    clear e0 e1 hx2 HX HF HB1 hR htv
    have e0 := HB2.out.c0
    have e1 := HB2.out.c1
    go_wp2_with fail
    refine (HD.out w2 (HC.out.ext HX2.out)).mono ?_
    rintro e w3 ⟨dv, rfl, hdv, hx3⟩
    have HX3 := Lib.hid (HX2.out.trans hx3)
    have HB3 := Lib.hid (HB2.out.ext hx3)
    have HT3 := Lib.hid (HT.out.ext hx3)
    have HD3 := Lib.hid hdv
    clear e0 e1 hx3 HX2 HB2 HT hdv
    have C := error_any 0 0 w3 (HG.out.ext HX3.out)
    rw [errv_zero, show ((0 : Int) == 0) = true from rfl] at C
    have HCC := Lib.hid C
    clear C
    go_wp2_with fail
    refine HCC.out.mono ?_
    rintro e w4 ⟨rfl, hx4⟩
    have HX4 := Lib.hid (HX3.out.trans hx4)
    have HB4 := Lib.hid (HB3.out.ext hx4)
    have C := srows_any tv dv T T w4 (HT3.out.ext hx4) (HD3.out.ext hx4)
    rw [show decide (T = T) = true from decide_eq_true rfl] at C
    have HCC := Lib.hid C
    clear hx4 HX3 HB3 HT3 HD3 C
    go_wp2_with fail
    refine HCC.out.mono ?_
    rintro e w5 hrd
    obtain ⟨rfl, hx5⟩ := hrd.ext
    have HX5 := Lib.hid (HX4.out.trans hx5)
    have HB5 := Lib.hid (HB4.out.ext hx5)
    clear hrd hx5 HX4 HB4 HCC
    have e0 := HB5.out.c0
    have e1 := HB5.out.c1
    go_wp2_with fail
    refine (twidth_any sz _ cd w5 (HC.out.ext HX5.out) hs).mono ?_
    rintro e w6 ⟨rfl, hx6⟩
    have HX6 := Lib.hid (HX5.out.trans hx6)
    have HB6 := Lib.hid (HB5.out.ext hx6)
    clear e0 e1 hx6 HX5 HB5
    have e1 := HB6.out.c1
    go_wp2_with fail
    go_ret
    exact ⟨rfl, HX6.out⟩
end Go.Proofs.YtainhfnanamobaaGreatDoor
