/- SourceFuel: MORE FUEL MAKES NO DIFFERENCE: the law's walk. -/
import Derived.Test.YtgnomhbbbcfehaaGreatDoorSsn
import Derived.Test.YtgnomhbbbcfehaaGreatDoorZx15
namespace Go.Proofs.YtgnomhbbbcfehaaGreatDoor
open Go.RowKit Go.Att Go.Shelf
theorem EvGot.forms {w w' : World} {r : EvR} {e : Ending} (h : EvGot w r e w') : ∃ (a b : Int) (E : Value), e = .returned (.tuple #[.agg #[.int .i64 a, .int .i64 b], E]) ∧ Ext w w' ∧ ((∃ k : Nat, r = .err k ∧ E = .iface 60 (.int .i64 k)) ∨ ∃ k : Nat, r = .val a k ∧ b = k ∧ E = .nilIface) := by
  cases r with
  | val v k => exact ⟨v, k, _, h.1, h.2, .inr ⟨k, rfl, rfl, rfl⟩⟩
  | err k => exact ⟨0, 0, _, h.1, h.2, .inl ⟨k, rfl, rfl⟩⟩
set_option maxRecDepth 100000 in
set_option maxHeartbeats 4000000 in
theorem sourceFuel_bad (p : Int) (tv av : Value) (fuel other : Int) (w : World) (h : ¬ okP p) :
    Calls Tryz.prog 5 #[.int .i64 p, tv, av, .int .i64 fuel, .int .i64 other] w fun e w' => e = .returned (.bool true) ∧ Ext w w' := by
  have H := Lib.hid h; clear h
  go_enter Tryz.func5, Tryz.ntmps5
  go_wp2_with (first | (go_at_call 19; refine (lives6_any _).mono ?_; rintro e w1 ⟨rfl, hx1⟩) | (go_at_call 20; refine (plain_bad6 _ _ H.out).mono ?_; rintro e w2 ⟨rfl, rfl⟩))
  go_ret
  exact ⟨rfl, hx1⟩
set_option maxRecDepth 100000 in
set_option maxHeartbeats 8000000 in
theorem sourceFuel_ok (p : Int) {L : List UInt8} {av : Value} {args : List Int} (fuel other : Int) (w : World) (h : okP p) (hg : Hnd w) (herr : ErrR w) (ha : Ints w av args) :
    Calls Tryz.prog 5 #[.int .i64 p, .string ⟨L.toArray⟩, av, .int .i64 fuel, .int .i64 other] w fun e w' => e = .returned (.bool true) ∧ Ext w w' := by
  have H := Lib.hid h; have HG := Lib.hid hg; have HE := Lib.hid herr; have HA := Lib.hid ha
  clear h hg herr ha
  go_enter Tryz.func5, Tryz.ntmps5
  go_wp2_with fail
  refine (lives6_any _).mono ?_
  rintro e w0 ⟨rfl, hx0⟩
  have HX0 := Lib.hid hx0
  clear hx0
  go_wp2_with fail
  refine (plain_ok6 _ _ H.out).mono ?_
  rintro e w1 ⟨v1, rfl, hx, g, hf⟩
  obtain ⟨bf, rfl⟩ := hf.ptr
  obtain ⟨ff, hfl⟩ := hf.fld
  have HF := Lib.hid hfl
  have HX1 := Lib.hid (HX0.out.trans hx)
  clear hf hfl hx HX0
  go_wp2_with fail
  have hP := sparse_any (w := w1) (L := L) (HE.out.ext HX1.out)
  refine hP.mono ?_
  clear hP
  intro e w2 hG
  cases hpL : parseT L with
  | bad a k =>
    rw [hpL] at hG
    obtain ⟨rfl, hx2⟩ := hG
    have HX2 := Lib.hid (HX1.out.trans hx2)
    clear hx2
    go_wp2_with fail
    go_ret
    exact ⟨rfl, HX2.out⟩
  | ok fs j =>
    rw [hpL] at hG
    obtain ⟨q2, fv2, rfl, hl2, hq2, hb2, hf2, hx2⟩ := hG
    have HC := Lib.hid (parse_chkd hpL)
    have HX2 := Lib.hid (HX1.out.trans hx2)
    have HB2 := Lib.hid hb2; have HF2 := Lib.hid hf2; have HFL := Lib.hid (HF.out.ext hx2)
    clear hl2 hq2 hb2 hf2 hx2 hpL
    go_wp2_with fail
    refine (seval_any HFL.out HB2.out HF2.out (Nat.le_refl _) HC.out (HA.out.ext HX2.out) fuel).mono ?_
    intro e w3 hG
    obtain ⟨a, b, E, rfl, hx3, hE⟩ := hG.forms
    have hx4 := Ext.alloc w3 (Obj.cells #[.int .i64 a, .int .i64 b] 36)
    have HV4 := Lib.hid (BlkOf.new w3 [.int .i64 a, .int .i64 b] 36)
    have HX4 := Lib.hid (hx3.trans hx4); have HY4 := Lib.hid (HX2.out.trans (hx3.trans hx4)); have HR1 := Lib.hid hE
    clear hG hx3 hx4 hE
    go_upto_region 9 with fail
    generalize w3.alloc (Obj.cells #[.int .i64 a, .int .i64 b] 36) = w4 at *
    generalize w3.heap.size = vb at *
    go_wp2_with fail
    refine (seval_any (HFL.out.ext HX4.out) (HB2.out.ext HX4.out) (HF2.out.ext HX4.out) HX4.out.size HC.out (HA.out.ext HY4.out) other).mono ?_
    intro e w5 hG
    obtain ⟨a2, b2, E2, rfl, hx5, hE⟩ := hG.forms
    have hx6 := Ext.alloc w5 (Obj.cells #[.int .i64 a2, .int .i64 b2] 36)
    have HV6 := Lib.hid (BlkOf.new w5 [.int .i64 a2, .int .i64 b2] 36)
    have HU6 := Lib.hid (HV4.out.ext (hx5.trans hx6)); have HY6 := Lib.hid (HY4.out.trans (hx5.trans hx6)); have HR2 := Lib.hid hE
    clear hG hx5 hx6 hE HV4 HX4 HY4
    go_upto_region 10 with fail
    generalize w5.alloc (Obj.cells #[.int .i64 a2, .int .i64 b2] 36) = w6 at *
    generalize w5.heap.size = ub at *
    rcases HR1.out with ⟨k, hr, rfl⟩ | ⟨k, hr, rfl, rfl⟩
    · clear HR1
      go_wp2_with fail
      go_ret
      exact ⟨rfl, HY6.out⟩
    · clear HR1
      obtain ⟨hk1, hk2, hk3⟩ := evalP_val hr
      have u0 : w6.cell? ⟨vb, 0, none⟩ = some (.int .i64 a) := HU6.out.cell 0
      have u1 : w6.cell? ⟨vb, 1, none⟩ = some (.int .i64 k) := HU6.out.cell 1
      have v0 : w6.cell? ⟨ub, 0, none⟩ = some (.int .i64 a2) := HV6.out.cell 0
      have v1 : w6.cell? ⟨ub, 1, none⟩ = some (.int .i64 b2) := HV6.out.cell 1
      by_cases h1 : other < 0
      · have d1 : decide (other < 0) = true := decide_eq_true h1
        clear hk3 h1 hr HR2
        go_wp2_with fail
        go_ret
        exact ⟨rfl, HY6.out⟩
      · have d1 : decide (other < 0) = false := decide_eq_false h1
        by_cases h2 : other > 16384
        · have d2 : decide (other > 16384) = true := decide_eq_true h2
          clear hk3 h1 h2 hr HR2
          go_wp2_with fail
          go_ret
          exact ⟨rfl, HY6.out⟩
        · have d2 : decide (other > 16384) = false := decide_eq_false h2
          have d3 : decide ((k : Int) < 1) = false := decide_eq_false (by omega)
          have d4 : decide ((k : Int) > fuel) = false := decide_eq_false (by omega)
          obtain ⟨hk4, hk5⟩ := hk3 other (by omega) (by omega)
          clear hk3
          by_cases h3 : other < k
          · have hr2 := hk4 h3
            have d5 : decide (other < (k : Int)) = true := decide_eq_true h3
            rcases HR2.out with ⟨k2, hr3, rfl⟩ | ⟨k2, hr3, rfl, rfl⟩
            · have hk8 : k2 = 8 := by rw [hr2] at hr3; injection hr3 with e; exact e.symm
              subst hk8
              have HER := Lib.hid (error_any 8 8 w6 (HG.out.ext HY6.out))
              rw [errv_pos (by decide)] at HER
              clear HR2 hr hr2 hr3 h1 h2 h3 hk4 hk5
              go_wp2_with fail
              refine HER.out.mono ?_
              rintro e w7 ⟨rfl, hx7⟩
              have HX7 := Lib.hid (HY6.out.trans hx7)
              clear hx7
              go_wp2_with fail
              go_ret
              exact ⟨rfl, HX7.out⟩
            · rw [hr2] at hr3; cases hr3
          · have hr2 := hk5 (by omega)
            have d5 : decide (other < (k : Int)) = false := decide_eq_false h3
            rcases HR2.out with ⟨k2, hr3, rfl⟩ | ⟨k2, hr3, rfl, rfl⟩
            · rw [hr2] at hr3; cases hr3
            · have ea : a = a2 := by rw [hr2] at hr3; injection hr3
              have ek : k = k2 := by rw [hr2] at hr3; injection hr3
              subst ea ek
              clear HR2 hr hr2 hr3 h1 h2 h3 hk4 hk5
              go_wp2_with fail
              go_ret
              exact ⟨rfl, HY6.out⟩
end Go.Proofs.YtgnomhbbbcfehaaGreatDoor
