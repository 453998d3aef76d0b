/- PledgeMixes: sums of any rows; the root of any table: the law's walk: for every input it returns true and leaves all that was there as it was. What a pledge says, the program's side: pledge.Check: contracts. Printed by wip/mknu.py. -/
import Derived.Test.YtcpnidomdkaefaaGreatDoorJb
import Derived.Test.YtcpnidomdkaefaaGreatDoorJc
import Derived.Test.YtcpnidomdkaefaaGreatDoorJm
import Derived.Test.YtcpnidomdkaefaaGreatDoorZx8
import Derived.Test.YtcpnidomdkaefaaGreatDoorZx16
import Derived.Test.YtcpnidomdkaefaaGreatDoorZx3
import Derived.Test.YtcpnidomdkaefaaGreatDoorNt
import Derived.Deep.RegionHeld3
import Derived.Deep.DrawnRows
section
namespace Go.Att
open Go.RowKit
end Go.Att
namespace Go.Proofs.YtcpnidomdkaefaaGreatDoor
open Go.RowKit Go.Att
theorem pw_le {p : Int} {k : Nat} (h : IsPw p k) (h23 : 23 ≤ p) (hp2 : p ≤ 2147483647) : (k : Int) ≤ 9223372036854775807 := by
  apply Classical.byContradiction
  intro hc
  exact h.2.2 (p - 2).toNat (by omega) (by omega) (gcd_last h23)
theorem mix_ok {w : World} {bf : Nat} {p g : Int} {fs : List Int} (hf : Fld w (.pointer (some ⟨bf, 0, none⟩)) p g fs) {vr : Value} {rows : List (List Int)} (hr : Rws w vr rows) (r : Int) (hb : (nthL rows 0).length ≤ 4294967290) (h : rowsBad rows = false) :
    Calls Tryz.prog 12 #[.pointer (some ⟨bf, 0, none⟩), vr, .int .i64 r] w (Gives w fun u w' => ∃ v, u = .tuple #[v, .nilIface] ∧ Ints w' v (mxU p (fun i => fpow p r i) rows (nthL rows 0).length rows.length)) := by
  refine (pmix_any hf vr rows hr r hb).mono ?_
  rintro e w' ⟨u, rfl, hx, h2⟩
  rcases h2 with ⟨h3, -⟩ | ⟨-, h3⟩
  · rw [h] at h3; cases h3
  · exact .mk _ rfl hx h3
end Go.Proofs.YtcpnidomdkaefaaGreatDoor
end
section
namespace Go.Att
open Go.RowKit
/-- What the boxes of pledge.Check hold: the point, the pledge, the shape. -/
structure PrgS (w0 : World) (q q16 ks : Nat) (va fv dv : Value) (os : List Value) (a c : Nat) (T : TypeId) (W : World) : Prop where
  x : Ext w0 W
  at_ : W.cell? ⟨q, 0, none⟩ = some va
  o : BlkOf W (q + 1) os T
  t : W.cell? ⟨q16, 0, none⟩ = some (.pointer (some ⟨ks, 0, none⟩))
  s0 : W.cell? ⟨ks, 0, none⟩ = some fv
  s1 : W.cell? ⟨ks, 1, none⟩ = some dv
  s2 : W.cell? ⟨ks, 2, none⟩ = some (.int .i64 a)
  s3 : W.cell? ⟨ks, 3, none⟩ = some (.int .i64 c)
section
variable {w0 W W' : World} {q q16 ks : Nat} {va fv dv : Value} {os : List Value} {a c : Nat} {T : TypeId}
theorem PrgS.ext (h : PrgS w0 q q16 ks va fv dv os a c T W) (hx : Ext W W') : PrgS w0 q q16 ks va fv dv os a c T W' := ⟨h.x.trans hx, hx.cell h.at_, h.o.ext hx, hx.cell h.t, hx.cell h.s0, hx.cell h.s1, hx.cell h.s2, hx.cell h.s3⟩
theorem PrgS.grown (h : PrgS w0 q q16 ks va fv dv os a c T W) {b : Nat} (hg : W.grownBy W' (some b)) (hb : w0.heap.size ≤ b) (h1 : b < q) (h2 : b ≠ q16) (h3 : b ≠ ks) : PrgS w0 q q16 ks va fv dv os a c T W' :=
  ⟨Below.grown h.x.below hg h.x.size (fun k e => by cases e; exact hb), hg.cell h.at_ (fun e => by have := Option.some.inj e; simp only at this; omega), h.o.grown hg (fun e => by have := Option.some.inj e; omega), hg.cell h.t (fun e => h2 (Option.some.inj e).symm), hg.cell h.s0 (fun e => h3 (Option.some.inj e).symm), hg.cell h.s1 (fun e => h3 (Option.some.inj e).symm), hg.cell h.s2 (fun e => h3 (Option.some.inj e).symm), hg.cell h.s3 (fun e => h3 (Option.some.inj e).symm)⟩
end
end Go.Att
namespace Go.Proofs.YtcpnidomdkaefaaGreatDoor
open Go.RowKit Go.Att
section
variable {w0 w : World} {cb bs bf : Nat} {p g0 : Int} {k : Nat} {fs D : List Int} {dv va r0 r1 r2 r3 r4 r5 : Value} {at_ : List Int} {o : Pld} {sh rt : Int}
set_option maxRecDepth 100000 in
set_option maxHeartbeats 8000000 in
/-- Where it does not fit. -/
theorem pcheck_bad {n : Int} (hd : DomOf w dv (.pointer (some ⟨bf, 0, none⟩)) n sh rt) (v asked : Int) (hn1 : 1 ≤ n) (hn2 : n ≤ 65536) (ha : Ints w va at_) (hv : ¬ (0 ≤ v ∧ v ≤ 12 ∧ roomB n v.toNat = true ∧ (at_.length : Int) = v ∧ 1 ≤ asked ∧ asked ≤ 64)) :
    Calls Tryz.prog 8 #[.pointer (some ⟨bs, 0, none⟩), .pointer (some ⟨cb, 0, none⟩), dv, .int .i64 v, va, .int .i64 asked, .agg #[r0, r1, r2, r3, r4, r5]] w fun e w' => e = .returned (.tuple #[.int .i64 0, .bool false]) ∧ Ext w w' := by
  have hla := ha.run_len (P := Tryz.prog) slInts
  have hal := ha.len
  obtain ⟨aa, ac, hshp⟩ := ha.shape
  obtain ⟨al, hle⟩ : ∃ n, at_.length = n := ⟨_, rfl⟩
  rw [hle] at hla hal hv hshp
  subst hshp
  have HD := Lib.hid hd
  clear ha hd hle
  have hX := (Ext.alloc w (Obj.cells #[.slice aa al ac] 22)).trans (Ext.alloc _ (Obj.cells #[r0, r1, r2, r3, r4, r5] 27))
  have hK := (Ext.alloc _ (Obj.cells #[r0, r1, r2, r3, r4, r5] 27)).cell (cell_new w #[.slice aa al ac] 22 0)
  have HX := Lib.hid hX; have HK := Lib.hid hK
  have CA := Lib.hid (fun W => pasks_any W asked)
  clear hX hK
  by_cases h1 : v < 0
  · clear hv
    go_enter Tryz.func8, Tryz.ntmps8
    go_upto_region 1 with (fail)
    generalize (w.alloc (Obj.cells #[.slice aa al ac] 22)).alloc (Obj.cells #[r0, r1, r2, r3, r4, r5] 27) = W1 at *
    go_wp2_with fail
    go_ret2
    exact ⟨rfl, HX.out⟩
  by_cases h2 : 12 < v
  · clear hv
    go_enter Tryz.func8, Tryz.ntmps8
    go_upto_region 1 with (fail)
    generalize (w.alloc (Obj.cells #[.slice aa al ac] 22)).alloc (Obj.cells #[r0, r1, r2, r3, r4, r5] 27) = W1 at *
    go_wp2_with fail
    go_ret2
    exact ⟨rfl, HX.out⟩
  by_cases h3 : (al : Int) = v
  case neg =>
    have h3b : ((al : Int) != v) = true := by rw [bne_iff_ne]; exact h3
    clear hv
    go_enter Tryz.func8, Tryz.ntmps8
    go_upto_region 1 with (fail)
    generalize (w.alloc (Obj.cells #[.slice aa al ac] 22)).alloc (Obj.cells #[r0, r1, r2, r3, r4, r5] 27) = W1 at *
    have k0 : W1.cell? ⟨w.heap.size, 0, none⟩ = some (.slice aa al ac) := HK.out
    go_wp2_with fail
    go_ret2
    exact ⟨rfl, HX.out⟩
  by_cases h4 : 1 ≤ asked ∧ asked ≤ 64
  case neg =>
    rw [decide_eq_false h4] at CA
    clear hv h4
    rw [h3] at hla
    go_enter Tryz.func8, Tryz.ntmps8
    go_upto_region 1 with (fail)
    generalize (w.alloc (Obj.cells #[.slice aa al ac] 22)).alloc (Obj.cells #[r0, r1, r2, r3, r4, r5] 27) = W1 at *
    have k0 : W1.cell? ⟨w.heap.size, 0, none⟩ = some (.slice aa al ac) := HK.out
    go_wp2_with (go_at_call 30; refine (CA.out _).mono ?_; rintro e w' ⟨rfl, rfl⟩)
    go_ret2
    exact ⟨rfl, HX.out⟩
  rw [decide_eq_true h4] at CA
  have hroom : roomB n v.toNat = false := by
    cases hr : roomB n v.toNat with
    | false => rfl
    | true => exact (hv ⟨by omega, by omega, hr, h3, h4.1, h4.2⟩).elim
  obtain ⟨vn, hvn⟩ : ∃ vn : Nat, v = (vn : Int) := ⟨v.toNat, by omega⟩
  subst hvn
  rw [Int.toNat_natCast] at hroom
  rw [h3] at hla
  have CS : Hid (∀ W, Ext w W → Calls Tryz.prog 31 #[dv, .int .i64 vn] W (Gives W fun u _ => ∃ kk, u = .tuple #[.pointer (some ⟨kk, 0, none⟩), .bool false])) := Lib.hid fun W hx => (shaped_any (HD.out.ext hx) hn1 hn2 vn (by omega)).mono fun e w' h => by
    obtain ⟨u, h1, h2, s, h3, kk, h4, -⟩ := h
    exact ⟨u, h1, h2, kk, by rw [h3, hroom, h4]⟩
  clear hv h4 h3 hroom
  go_enter Tryz.func8, Tryz.ntmps8
  go_upto_region 1 with (fail)
  generalize (w.alloc (Obj.cells #[.slice aa al ac] 22)).alloc (Obj.cells #[r0, r1, r2, r3, r4, r5] 27) = W1 at *
  have k0 : W1.cell? ⟨w.heap.size, 0, none⟩ = some (.slice aa al ac) := HK.out
  go_upto_region 4 with (first | (go_at_call 30; refine (CA.out _).mono ?_; rintro e w' ⟨rfl, rfl⟩) | (go_at_call 31; refine (CS.out _ HX.out).mono ?_; rintro e w2 ⟨u, rfl, hx2, kk, rfl⟩; have HX2 := Lib.hid (HX.out.trans hx2); clear hx2 k0))
  have HX3 := Lib.hid (HX2.out.trans (Ext.alloc w2 (Obj.cells #[.pointer (some ⟨kk, 0, none⟩)] 78)))
  generalize w2.alloc (Obj.cells #[.pointer (some ⟨kk, 0, none⟩)] 78) = w3 at *
  go_quiet (fail)
  go_wp2_with fail
  go_ret2
  exact ⟨rfl, HX3.out.trans (Ext.drewN _ _)⟩
end
end Go.Proofs.YtcpnidomdkaefaaGreatDoor
end
