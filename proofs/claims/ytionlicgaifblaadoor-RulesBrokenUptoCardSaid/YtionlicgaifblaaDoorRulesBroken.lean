/- RulesBroken: ANY ROWS: the first rule that does not hold: the law's walk: for every input it returns true and leaves all that was there as it was. -/
import Derived.Test.YtionlicgaifblaaDoorKt
import Derived.Test.YtionlicgaifblaaDoorKw
import Derived.Test.YtionlicgaifblaaDoorSa
import Derived.Test.YtionlicgaifblaaDoorEr
import Derived.Test.YtionlicgaifblaaDoorFc
namespace Go.Proofs.YtionlicgaifblaaDoor
open Go.RowKit Go.Att
theorem dbroken_any (p sz out : Int) (lv v : Value) (cd : List In4) (L : List (List Int)) (w : World) (hp : 2 ≤ p) (hp2 : p ≤ 2147483647) (hc : Inqs w lv cd) (hv : Rws w v L) (hs : cd.length ≤ 1048576) (hN : L.length ≤ 1048576) : Calls Tryd.prog 10 #[.int .i64 p, .agg #[.int .i64 sz, lv], .int .i64 out, v] w fun e w' => BrkGot p sz out cd L e ∧ Ext w w' := by
  rcases L with _ | ⟨l0, L⟩
  · exact dbroken_none p sz out lv v cd w hc hv
  · rcases cd with _ | ⟨c0, cd⟩
    · exact dbroken_zero p sz out lv v _ w hc hv hN (by simp)
    · exact dbroken_full p sz out lv v _ _ w hp hp2 hc hv hs hN (by simp) (by simp)
theorem pbroken_any {p g : Int} {fs : List Int} (f : Value) (sz out : Int) (lv v : Value) (cd : List In4) (L : List (List Int)) (w : World) (hf : Fld w f p g fs) (hc : Inqs w lv cd) (hv : Rws w v L) (hs : cd.length ≤ 1048576) (hN : L.length ≤ 1048576) : Calls Tryd.prog 9 #[f, .agg #[.int .i64 sz, lv], .int .i64 out, v] w fun e w' => BrkGot p sz out cd L e ∧ Ext w w' := by
  rcases L with _ | ⟨l0, L⟩
  · exact pbroken_none f sz out lv v cd p w hv
  · rcases cd with _ | ⟨c0, cd⟩
    · exact pbroken_zero f sz out lv v _ p w hc hv hN (by simp)
    · exact pbroken_full f sz out lv v _ _ w hf hc hv hs hN (by simp) (by simp)
theorem brk_shape {p sz out : Int} {cd : List In4} {L : List (List Int)} {e : Ending} (h : BrkGot p sz out cd L e) : ∃ a b : Int, e = .returned (.agg #[.int .i64 a, .int .i64 b]) := by
  rcases h with ⟨_, rfl⟩ | ⟨_, o, _, rfl⟩
  · exact ⟨_, _, rfl⟩
  · exact ⟨_, _, rfl⟩
set_option maxRecDepth 100000 in
set_option maxHeartbeats 4000000 in
theorem rulesBroken_bad (p : Int) (cv : Value) (out : Int) (v : Value) (w : World) (h : ¬ okP p) (hg : Hnd w) (sz : Int) (lv : Value) (hcv : cv = .agg #[.int .i64 sz, lv]) :
    Calls Tryd.prog 3 #[.int .i64 p, cv, .int .i64 out, v] w fun e w' => e = .returned (.bool true) ∧ Ext w w' := by
  subst hcv
  have H := Lib.hid h; have HG := Lib.hid hg; clear h hg
  have HX0 := Lib.hid (Ext.alloc w (Obj.cells #[.int .i64 sz, lv] 24))
  go_enter Tryd.func3, Tryd.ntmps3
  go_wp2_with (go_at_call 7; refine (sfield_bad _ _ H.out (HG.out.ext HX0.out)).mono ?_; rintro e w' ⟨v, rfl, hx, rfl⟩)
  go_ret
  exact ⟨rfl, HX0.out.trans hx⟩
set_option maxRecDepth 100000 in
set_option maxHeartbeats 4000000 in
theorem rulesBroken_ok (p sz : Int) (lv : Value) (cd : List In4) (out : Int) (v : Value) (L : List (List Int)) (w : World) (h : okP p) (hg : Hnd w) (hc : Inqs w lv cd) (hv : Rws w v L) (hs : cd.length ≤ 1048576) (hN : L.length ≤ 1048576) (hrs : ∀ i, i < L.length → (nthL L i).length ≤ 1048576) :
    Calls Tryd.prog 3 #[.int .i64 p, .agg #[.int .i64 sz, lv], .int .i64 out, v] w fun e w' => e = .returned (.bool true) ∧ Ext w w' := by
  have H := Lib.hid h; have HG := Lib.hid hg
  obtain ⟨hp, lo, hi⟩ := h
  have hp2 : 2 ≤ p := by omega
  have HV := Lib.hid hv; have HRS := Lib.hid hrs; have HC := Lib.hid hc
  obtain ⟨al, cl, rfl⟩ := hc.shape
  have HB := Lib.hid ((C2.new w (.int .i64 sz) (.slice al cd.length cl) 24))
  have HX0 := Lib.hid (Ext.alloc w (Obj.cells #[.int .i64 sz, .slice al cd.length cl] 24))
  clear hg hp hv hrs hc
  go_enter Tryd.func3, Tryd.ntmps3
  go_wp2_with fail
  generalize hqb : w.heap.size = qb at *
  clear hqb
  generalize w.alloc (Obj.cells #[.int .i64 sz, .slice al cd.length cl] 24) = W at *
  refine (sfield_ok _ _ H.out (HG.out.ext HX0.out)).mono ?_
  rintro e w1 ⟨v1, rfl, hx, f, g, rfl, hf⟩
  obtain ⟨bf, rfl⟩ := hf.ptr
  obtain ⟨fs, hfl⟩ := hf.fld
  have HF := Lib.hid hfl
  have HX := Lib.hid (HX0.out.trans hx)
  have HB1 := Lib.hid (HB.out.ext hx)
  clear hf hfl hx HB HX0
  go_wp2_with fail
  refine (copiedK_any v L w1 (HV.out.ext HX.out) hN HRS.out).mono ?_
  rintro e w2 ⟨u, rfl, hx2, hu⟩
  have HX2 := Lib.hid (HX.out.trans hx2)
  have HU := Lib.hid hu
  have HF2 := Lib.hid (HF.out.ext hx2)
  have HB2 := Lib.hid (HB1.out.ext hx2)
  have e0 := HB2.out.c0
  have e1 := HB2.out.c1
  clear hx2 hu HF HX HB1
  go_wp2_with fail
  refine (pbroken_any _ sz out _ u cd L w2 HF2.out (HC.out.ext HX2.out) HU.out hs hN).mono ?_
  rintro e w3 ⟨hbr, hx3⟩
  obtain ⟨a, b, rfl⟩ := brk_shape hbr
  have HBR := Lib.hid hbr
  have HX3 := Lib.hid (HX2.out.trans hx3)
  have HU3 := Lib.hid (HU.out.ext hx3)
  have HB3 := Lib.hid (HB2.out.ext hx3)
  clear hbr hx3 HX2 HU HF2 HB2 e0 e1
  have HN3 := Lib.hid (C2.new w3 (.int .i64 a) (.int .i64 b) 31)
  have HA3 := Lib.hid (Ext.alloc w3 (Obj.cells #[.int .i64 a, .int .i64 b] 31))
  have e0 := HA3.out.cell HB3.out.c0
  have e1 := HA3.out.cell HB3.out.c1
  go_wp2_with fail
  generalize hq3 : w3.heap.size = q3 at *
  clear hq3
  generalize w3.alloc (Obj.cells #[.int .i64 a, .int .i64 b] 31) = W3 at *
  have HX3' := Lib.hid (HX3.out.trans HA3.out)
  refine (dbroken_any p sz out _ v cd L W3 hp2 hi (HC.out.ext HX3'.out) (HV.out.ext HX3'.out) hs hN).mono ?_
  rintro e w4 ⟨hbr, hx4⟩
  obtain rfl := HBR.out.one hbr
  have HX4 := Lib.hid (HX3'.out.trans hx4)
  have HU4 := Lib.hid ((HU3.out.ext HA3.out).ext hx4)
  have HN4 := Lib.hid (HN3.out.ext hx4)
  clear hbr hx4 HX3 HX3' HU3 HN3 HA3 HB3 e0 e1
  have HN5 := Lib.hid (C2.new w4 (.int .i64 a) (.int .i64 b) 31)
  have HA5 := Lib.hid (Ext.alloc w4 (Obj.cells #[.int .i64 a, .int .i64 b] 31))
  go_wp2_with fail
  generalize hq4 : w4.heap.size = q4 at *
  clear hq4
  generalize w4.alloc (Obj.cells #[.int .i64 a, .int .i64 b] 31) = W4 at *
  have HX5 := Lib.hid (HX4.out.trans HA5.out)
  have C := srows_any u v L L W4 (HU4.out.ext HA5.out) (HV.out.ext HX5.out)
  rw [decide_eq_true rfl] at C
  refine C.mono ?_
  rintro e w5 hrd
  obtain ⟨rfl, hx5⟩ := hrd.ext
  have HX6 := Lib.hid (HX5.out.trans hx5)
  have HM := Lib.hid ((HN4.out.ext HA5.out).ext hx5)
  have HM2 := Lib.hid (HN5.out.ext hx5)
  clear hrd hx5 C HX5 HX4 HU4 HN4 HN5 HA5
  have m0 := HM.out.c0
  have m1 := HM.out.c1
  have n0 := HM2.out.c0
  have n1 := HM2.out.c1
  go_wp2_with fail
  go_ret
  exact ⟨by simp, HX6.out⟩
end Go.Proofs.YtionlicgaifblaaDoor
