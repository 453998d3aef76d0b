/- The groups of a tree: how many stand at the left; lists joined: contracts. -/
import Derived.Test.YtcpnidomdkaefaaGreatDoorZx14
namespace Go.Att
open Go.RowKit
/-- The greatest power of 2 below n, or 1; f bounds the steps. -/
def lfGo (n : Nat) : Nat → Nat → Nat
  | 0, m => m
  | f + 1, m => if 2 * m < n then lfGo n f (2 * m) else m
def lfN (n : Nat) : Nat := lfGo n n 1
theorem lfGo_done {n m : Nat} (h : ¬ 2 * m < n) : ∀ f, lfGo n f m = m
  | 0 => rfl
  | f + 1 => by simp [lfGo, h]
theorem lfGo_bd {n : Nat} : ∀ (f m : Nat), 1 ≤ m → m < n → 1 ≤ lfGo n f m ∧ lfGo n f m < n
  | 0, m, h1, h2 => ⟨h1, h2⟩
  | f + 1, m, h1, h2 => by
    simp only [lfGo]
    by_cases h : 2 * m < n
    · rw [if_pos h]; exact lfGo_bd f (2 * m) (by omega) h
    · rw [if_neg h]; exact ⟨h1, h2⟩
theorem ext_set {w X : World} {b o : Nat} {v : Value} (h : Ext w X) (hb : w.heap.size ≤ b) : Ext w (X.setCell ⟨b, o, none⟩ v) := Below.grown h.below (setCell_grown _ _ _ _) h.size (fun q e => by cases e; exact hb)
theorem lfN_bd {n : Nat} (h : 2 ≤ n) : 1 ≤ lfN n ∧ lfN n < n := lfGo_bd n 1 (by omega) (by omega)
end Go.Att
namespace Go.Proofs.YtcpnidomdkaefaaGreatDoor
open Go.RowKit Go.Att
section
variable {w : World}
set_option maxRecDepth 100000 in
set_option maxHeartbeats 4000000 in
theorem tjoined_any (first : Int) {v : Value} {L : List (List Int)} {R : Nat → Value} (h : RwsAt w v L R) (hb : L.flatten.length ≤ 4294966000) (hc : L.length ≤ 4294967000) :
    Calls Tryz.prog 151 #[.int .i64 first, v] w (Gives w fun u w' => Ints w' u (first :: L.flatten)) := by
  have HR := Lib.hid h
  obtain ⟨N, hN⟩ : ∃ N, L.flatten.length = N := ⟨_, rfl⟩
  have HN := Lib.hid hN
  rw [hN] at hb
  have HX1 := Lib.hid (Ext.alloc w (Obj.cells #[.int .i64 first] 3))
  have HO1 := Lib.hid (own_litB (W := w) (B := w.heap.size) [.int .i64 first] 3 (by simp) (Nat.le_refl _))
  clear h hN
  go_enter Tryz.func151, Tryz.ntmps151
  go_wp2_with (first | (go_at_call 88; refine (concat_any (HR.out.ext HX1.out) (by rw [HN.out]; omega) hc).mono ?_; rw [HN.out]; rintro e w3 ⟨v3, rfl, hx3, ho3⟩; have HO3 := Lib.hid (own_ext HO1.out hx3); have HX3 := Lib.hid (HX1.out.trans hx3); have hsl := Sl.of_own ho3 (by omega); have HSL := Lib.hid hsl; clear hx3 ho3 hsl) | (at_builtin; refine wpList_appSl rfl _ _ 22 rfl slInts rfl HX3.out HO3.out rfl HSL.out (by intro u hu; simp only [List.mem_map] at hu; obtain ⟨_, _, rfl⟩ := hu; rfl) rfl (by show 1 + N ≤ _; omega) (by omega) ?_; intro v6 w6 HO6 HX6 HG6))
  have HO6H := Lib.hid HO6
  clear HO6
  go_ret
  exact .mk _ rfl HX6 (Ints.of_own (B := w.heap.size) (e := 3) HO6H.out)
set_option maxRecDepth 100000 in
set_option maxHeartbeats 4000000 in
theorem thalves_any (a n : Nat) (hn : 2 ≤ n) (hb : a + n ≤ 65536) :
    Calls Tryz.prog 62 #[.agg #[.int .i64 a, .int .i64 ((a : Int) + n)]] w (Gives w fun u _w' => u = .tuple #[.agg #[.int .i64 a, .int .i64 ((a : Int) + lfN n)], .agg #[.int .i64 ((a : Int) + lfN n), .int .i64 ((a : Int) + n)]]) := by
  have HLB := Lib.hid (lfN_bd hn)
  have HL0 := Lib.hid (show lfGo n n 1 = lfN n from rfl)
  have HX0 := Lib.hid (((Ext.alloc w (Obj.cells #[.int .i64 a, .int .i64 ((a : Int) + n)] 112)).trans (Ext.alloc _ (Obj.cells #[.int .i64 0, .int .i64 0] 112))).trans (Ext.alloc _ (Obj.cells #[.int .i64 0, .int .i64 0] 112)))
  have hb0 := BlkOf.new w [.int .i64 a, .int .i64 ((a : Int) + n)] 112
  have hb1 := BlkOf.new (w.alloc (Obj.cells #[.int .i64 a, .int .i64 ((a : Int) + n)] 112)) [.int .i64 0, .int .i64 0] 112
  have hb2 := BlkOf.new ((w.alloc (Obj.cells #[.int .i64 a, .int .i64 ((a : Int) + n)] 112)).alloc (Obj.cells #[.int .i64 0, .int .i64 0] 112)) [.int .i64 0, .int .i64 0] 112
  rw [World.size_alloc] at hb1
  rw [World.size_alloc, World.size_alloc] at hb2
  have HB0 := Lib.hid (hb0.ext ((Ext.alloc _ (Obj.cells #[.int .i64 0, .int .i64 0] 112)).trans (Ext.alloc _ (Obj.cells #[.int .i64 0, .int .i64 0] 112))))
  have HB1 := Lib.hid (hb1.ext (Ext.alloc _ (Obj.cells #[.int .i64 0, .int .i64 0] 112)))
  have HB2 := Lib.hid hb2
  clear hb0 hb1 hb2
  go_enter Tryz.func62, Tryz.ntmps62
  go_upto_region 1 with (fail)
  generalize hW : ((w.alloc (Obj.cells #[.int .i64 a, .int .i64 ((a : Int) + n)] 112)).alloc (Obj.cells #[.int .i64 0, .int .i64 0] 112)).alloc (Obj.cells #[.int .i64 0, .int .i64 0] 112) = w1 at *
  clear hW
  have k0 : w1.cell? ⟨w.heap.size, 0, none⟩ = some (.int .i64 a) := HB0.out.cell 0
  have k1 : w1.cell? ⟨w.heap.size, 1, none⟩ = some (.int .i64 ((a : Int) + n)) := HB0.out.cell 1
  go_wp2_with fail
  go_loopw [4] (fun x4 wr => ∃ m f : Nat, x4 = .int .i64 m ∧ 1 ≤ m ∧ m < n ∧ n ≤ f + m ∧ lfGo n f m = lfN n ∧ wr = w1) (fun x4 _ => n - (intOf x4).toNat)
  case atStart => exact ⟨1, n, rfl, by omega, by omega, by omega, HL0.out, rfl⟩
  case round =>
    obtain ⟨m, f, rfl, hm1, hmn, hf, hg, rfl⟩ := hrel
    by_cases h2 : 2 * m < n
    · obtain ⟨f', rfl⟩ : ∃ f', f = f' + 1 := ⟨f - 1, by omega⟩
      have HG := Lib.hid (show lfGo n f' (2 * m) = lfN n from by rw [← hg]; simp [lfGo, h2])
      have h2i : 2 * (m : Int) < (a : Int) + n - a := by omega
      clear hg
      go_wp2_with fail
      go_roundw
      case rel => exact ⟨2 * m, f', by first | go_num | (congr 1; omega), by omega, h2, by omega, HG.out, by first | trivial | rfl⟩
      case measure => simp [intOf]; omega
    · have HG := Lib.hid (show m = lfN n from by rw [← hg, lfGo_done h2])
      have h2i : ¬ (2 * (m : Int) < (a : Int) + n - a) := by omega
      clear hg
      have m0 : wr.cell? ⟨w.heap.size + 1, 0, none⟩ = some (.int .i64 0) := HB1.out.cell 0
      have m1 : wr.cell? ⟨w.heap.size + 1, 1, none⟩ = some (.int .i64 0) := HB1.out.cell 1
      have m2 : wr.cell? ⟨w.heap.size + 1 + 1, 0, none⟩ = some (.int .i64 0) := HB2.out.cell 0
      have m3 : wr.cell? ⟨w.heap.size + 1 + 1, 1, none⟩ = some (.int .i64 0) := HB2.out.cell 1
      have f0 : wr.frozen? ⟨w.heap.size + 1, 0, none⟩ = false := HB1.out.free 0
      have f1 : wr.frozen? ⟨w.heap.size + 1, 1, none⟩ = false := HB1.out.free 1
      have f2 : wr.frozen? ⟨w.heap.size + 1 + 1, 0, none⟩ = false := HB2.out.free 0
      have f3 : wr.frozen? ⟨w.heap.size + 1 + 1, 1, none⟩ = false := HB2.out.free 1
      go_wp2_with fail
      go_region
      have hne : some (w.heap.size + 1) ≠ some (w.heap.size + 1 + 1) := fun e => by have := Option.some.inj e; omega
      have b1 := ((((HB1.out.set 0 (.int .i64 a)).set 1 (.int .i64 ((a : Int) + m))).grown (setCell_grown _ (w.heap.size + 1 + 1) 0 (.int .i64 ((a : Int) + m))) hne).grown (setCell_grown _ (w.heap.size + 1 + 1) 1 (.int .i64 ((a : Int) + n))) hne).ext (Ext.drew _)
      have b2 := ((((HB2.out.grown (setCell_grown _ (w.heap.size + 1) 0 (.int .i64 a)) hne.symm).grown (setCell_grown _ (w.heap.size + 1) 1 (.int .i64 ((a : Int) + m))) hne.symm).set 0 (.int .i64 ((a : Int) + m))).set 1 (.int .i64 ((a : Int) + n))).ext (Ext.drew _)
      have hx5 := (ext_set (o := 1) (v := .int .i64 ((a : Int) + n)) (ext_set (o := 0) (v := .int .i64 ((a : Int) + m)) (ext_set (o := 1) (v := .int .i64 ((a : Int) + m)) (ext_set (o := 0) (v := .int .i64 a) HX0.out (show w.heap.size ≤ w.heap.size + 1 by omega)) (show w.heap.size ≤ w.heap.size + 1 by omega)) (show w.heap.size ≤ w.heap.size + 1 + 1 by omega)) (show w.heap.size ≤ w.heap.size + 1 + 1 by omega)).trans (Ext.drew _)
      have y0 : _ = some (Value.int .i64 (a : Int)) := b1.cell 0
      have y1 : _ = some (Value.int .i64 ((a : Int) + m)) := b1.cell 1
      have y2 : _ = some (Value.int .i64 ((a : Int) + m)) := b2.cell 0
      have y3 : _ = some (Value.int .i64 ((a : Int) + n)) := b2.cell 1
      have HX5 := Lib.hid hx5
      clear b1 b2 hx5 m0 m1 m2 m3 f0 f1 f2 f3 k0 k1 hne
      go_wp2_with fail
      exact bodyPost_ret (v := .tuple #[.agg #[.int .i64 a, .int .i64 ((a : Int) + m)], .agg #[.int .i64 ((a : Int) + m), .int .i64 ((a : Int) + n)]]) (by simp [results, Tryz.results62, go_sem, y0, y1, y2, y3]) rfl (.mk _ rfl HX5.out (by rw [← HG.out]))
end
end Go.Proofs.YtcpnidomdkaefaaGreatDoor
