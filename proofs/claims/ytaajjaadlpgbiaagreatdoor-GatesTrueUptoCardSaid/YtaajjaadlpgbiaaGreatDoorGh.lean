/- A circuit with a fault is not shown; the document's Line: contracts. -/
import Derived.Test.YtaajjaadlpgbiaaGreatDoorGg
import Derived.Test.YtaajjaadlpgbiaaGreatDoorEb
namespace Go.Proofs.YtaajjaadlpgbiaaGreatDoor
open Go.RowKit Go.Att
set_option maxRecDepth 100000 in
set_option maxHeartbeats 4000000 in
theorem make_bad (bs bf : Nat) (wd : Int) (lv vi : Value) (Ls : List (List Tri)) (R : Nat → Value) (inp : List Int) (w : World) (hc : w.cell? ⟨bs, 0, none⟩ = some (.pointer (some ⟨bf, 0, none⟩))) (hv : LysAt w lv Ls R) (hi : Ints w vi inp) (hE : walkErr wd Ls inp.length ≠ 0) :
    Calls Tryz.prog 22 #[.pointer (some ⟨bs, 0, none⟩), .agg #[.int .i64 wd, lv], vi] w (Gives w fun u _w' => u = .tuple #[.agg #[.slice none 0 0, .slice none 0 0], errv (walkErr wd Ls inp.length)]) := by
  have HV := Lib.hid hv; have HI := Lib.hid hi; have HE := Lib.hid hE
  have EP := Lib.hid (errv_pos hE)
  rw [errv_pos hE]
  obtain ⟨ao, cap, rfl⟩ := hv.shape
  clear hv hi hE
  have HX0 := Lib.hid ((Ext.alloc w (Obj.cells #[.int .i64 wd, .slice ao Ls.length cap] 48)).trans (Ext.alloc _ (Obj.cells #[.slice none 0 0, .slice none 0 0] 51)))
  have HRB := Lib.hid (show BlkOf ((w.alloc (Obj.cells #[.int .i64 wd, .slice ao Ls.length cap] 48)).alloc (Obj.cells #[.slice none 0 0, .slice none 0 0] 51)) (w.heap.size + 1) [.slice none 0 0, .slice none 0 0] 51 from by have := BlkOf.new (w.alloc (Obj.cells #[.int .i64 wd, .slice ao Ls.length cap] 48)) [.slice none 0 0, .slice none 0 0] 51; rw [World.size_alloc] at this; exact this)
  have k0 := (Ext.alloc (w.alloc (Obj.cells #[.int .i64 wd, .slice ao Ls.length cap] 48)) (Obj.cells #[.slice none 0 0, .slice none 0 0] 51)).cell (cell_new w #[.int .i64 wd, .slice ao Ls.length cap] 48 0)
  have k1 := (Ext.alloc (w.alloc (Obj.cells #[.int .i64 wd, .slice ao Ls.length cap] 48)) (Obj.cells #[.slice none 0 0, .slice none 0 0] 51)).cell (cell_new w #[.int .i64 wd, .slice ao Ls.length cap] 48 1)
  have HK0 := Lib.hid k0; have HK1 := Lib.hid k1
  clear k0 k1
  go_enter Tryz.func22, Tryz.ntmps22
  go_wp2_with fail
  generalize ((w.alloc (Obj.cells #[.int .i64 wd, .slice ao Ls.length cap] 48)).alloc (Obj.cells #[.slice none 0 0, .slice none 0 0] 51)) = w1 at *
  have k0 : w1.cell? ⟨w.heap.size, 0, none⟩ = some (.int .i64 wd) := HK0.out
  have k1 : w1.cell? ⟨w.heap.size, 1, none⟩ = some (.slice ao Ls.length cap) := HK1.out
  have c0 := HX0.out.cell hc
  go_region_held3 (fun w' => w'.cell? ⟨w.heap.size, 0, none⟩ = some (.int .i64 wd) ∧ w'.cell? ⟨w.heap.size, 1, none⟩ = some (.slice ao Ls.length cap)) (first | exact ⟨hx2.cell ((Ext.drew w1).cell k0), hx2.cell ((Ext.drew w1).cell k1)⟩ | exact ⟨(Ext.drew w1).cell k0, (Ext.drew w1).cell k1⟩ | go_keep) (first | (go_at_call 7; refine (sfieldof_any ((Ext.drew w1).cell c0)).mono ?_; rintro e w' ⟨rfl, rfl⟩) | (go_at_call 59; refine (walker_bad _ wd _ vi Ls R inp _ (HV.out.ext (HX0.out.trans (Ext.drew w1))) (HI.out.ext (HX0.out.trans (Ext.drew w1))) HE.out).mono ?_; rw [EP.out]; rintro e w2 ⟨rfl, hx2⟩))
  have HB2 := HRB.out.ext ((Ext.drew w1).trans hx2)
  have HX2 := Lib.hid ((HX0.out.trans (Ext.drew w1)).trans hx2)
  have y0 : w2.cell? ⟨w.heap.size + 1, 0, none⟩ = some (.slice none 0 0) := HB2.cell 0
  have y1 : w2.cell? ⟨w.heap.size + 1, 1, none⟩ = some (.slice none 0 0) := HB2.cell 1
  have f0 := HB2.free 0; have f1 := HB2.free 1
  clear k0 k1 c0 hx2 HX0 HRB HK0 HK1 hc
  go_wp2_with fail
  exact bodyPost_ret (v := .tuple #[.agg #[.slice none 0 0, .slice none 0 0], .iface 77 (.int .i64 (walkErr wd Ls inp.length))]) (by simp [results, Tryz.results22, go_sem, y0, y1]) rfl (.mk _ rfl (Below.grown HX2.out.below ((setCell_grown _ _ _ _).trans (setCell_grown _ _ _ _)) HX2.out.size (fun q e => by have := Option.some.inj e; omega)) rfl)
set_option maxRecDepth 100000 in
set_option maxHeartbeats 1000000 in
theorem ronB_any (p t : Int) (vx vy : Value) (x y : List Int) (w : World) (hp : 2 ≤ p) (hp2 : p ≤ 2147483647) (hx : Ints w vx x) (hy : Ints w vy y) (hs : x.length ≤ 100000) (hl : x.length ≤ y.length) :
    Calls Tryz.prog 58 #[.int .i64 p, vx, vy, .int .i64 t] w (Gives w fun u w' => Ints w' u (onL p x y t) ∧ InB w w' u) := by
  have hlx := hx.run_len (P := Tryz.prog) slInts
  have HX := Lib.hid hx; have HY := Lib.hid hy; clear hx hy
  go_enter Tryz.func58, Tryz.ntmps58
  go_wp2_with fail
  go_loopw [9, 10, 11] (fun x9 x10 _ wr => ∃ i : Nat, i ≤ x.length ∧ x10 = .int .i64 i ∧ wr.ownsRow w.heap.size 3 1 x9 i (((onL p x y t).take i).map (Value.int .i64)) ∧ Ext w wr) (fun _ x10 _ _ => x.length - (intOf x10).toNat)
  case atStart => exact ⟨0, Nat.zero_le _, rfl, World.ownsRow_nil _ _ _ _, Ext.refl _⟩
  case round =>
    obtain ⟨i, hi, rfl, HO, HXX⟩ := hrel
    by_cases hlt : i < x.length
    · have hix := HX.out.run_index (P := Tryz.prog) slInts i hlt
      have hc := (HX.out.ext HXX).cell i hlt
      have hiy := HY.out.run_index (P := Tryz.prog) slInts i (by omega)
      have hcy := (HY.out.ext HXX).cell i (by omega)
      have S := Lib.hid (onL_step p x y t hlt)
      go_wp2_with fail
      go_quiet ((go_at_call 112; exact rsub_q _ _ _ _ _ hp hp2))
      have HO2 := own_ext HO (Ext.drewN wr nq)
      have HX2 := HXX.trans (Ext.drewN wr nq)
      replace hc := (Ext.drewN wr nq).cell hc
      clear hcy
      generalize wr.drewN nq = w5 at *
      go_wp2_with (first | (go_at_call 33; refine (rmul_any _ _ _ _ hp hp2).mono ?_; rintro e w' ⟨rfl, rfl⟩) | (go_at_call 34; refine (radd_any _ _ _ _ hp hp2).mono ?_; rintro e w' ⟨rfl, rfl⟩) | (at_builtin; refine wpList_app1 rfl _ _ 23 rfl slInts rfl HX2 HO2 rfl _ rfl rfl (by omega) (by omega) ?_; intro v' w6 HO' HX' _))
      go_roundw
      case rel => exact ⟨i + 1, by omega, by go_num, by rw [S.out]; exact HO', HX'⟩
      case measure => simp [intOf]; omega
    · have hE : (onL p x y t).take i = onL p x y t := List.take_of_length_le (by rw [onL_length]; omega)
      rw [hE] at HO
      have HI := Lib.hid (And.intro (Ints.of_own HO) (fun q hq => HO.lt q hq : InB w wr _))
      clear hE
      go_wp2_with fail
      go_ret
      exact .mk _ rfl HXX HI.out

section
variable {w : World} {p : Int} {vt vx vy : Value} {t x y : List Int}
end
end Go.Proofs.YtaajjaadlpgbiaaGreatDoor
