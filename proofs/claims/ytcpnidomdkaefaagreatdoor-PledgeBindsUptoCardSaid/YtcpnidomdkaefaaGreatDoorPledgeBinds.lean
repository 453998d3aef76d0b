/- PledgeBinds: who says two things of one root has two lists with one digest: the law's walk: for every input it returns true and leaves all that was there as it was. -/
import Derived.Test.YtcpnidomdkaefaaGreatDoorZx23
import Derived.Test.YtcpnidomdkaefaaGreatDoorNv
import Derived.Test.YtcpnidomdkaefaaGreatDoorOb
namespace Go.Att
open Go.RowKit
/-- The rows {{1}, {1}}, built in place. -/
def rows11 (W : World) : Nat → Value := fun i => if i = 0 then .slice (some ⟨W.heap.size, 0, none⟩) 1 1 else .slice (some ⟨W.heap.size + 1, 0, none⟩) 1 1
theorem rws11 (W : World) (ti tr : TypeId) : RwsAt (((W.alloc (Obj.cells #[.int .i64 1] ti)).alloc (Obj.cells #[.int .i64 1] ti)).alloc (Obj.cells #[.slice (some ⟨W.heap.size, 0, none⟩) 1 1, .slice (some ⟨W.heap.size + 1, 0, none⟩) 1 1] tr)) (.slice (some ⟨W.heap.size + 1 + 1, 0, none⟩) 2 2) [[1], [1]] (rows11 W) := by
  have s1 : (W.alloc (Obj.cells #[.int .i64 1] ti)).heap.size = W.heap.size + 1 := by simp
  have s2 : ((W.alloc (Obj.cells #[.int .i64 1] ti)).alloc (Obj.cells #[.int .i64 1] ti)).heap.size = W.heap.size + 1 + 1 := by simp
  have i0 := (ints_lit1 W 1 ti).ext ((Ext.alloc _ (Obj.cells #[.int .i64 1] ti)).trans (Ext.alloc _ (Obj.cells #[.slice (some ⟨W.heap.size, 0, none⟩) 1 1, .slice (some ⟨W.heap.size + 1, 0, none⟩) 1 1] tr)))
  have i1 := (ints_lit1 (W.alloc (Obj.cells #[.int .i64 1] ti)) 1 ti).ext (Ext.alloc _ (Obj.cells #[.slice (some ⟨W.heap.size, 0, none⟩) 1 1, .slice (some ⟨W.heap.size + 1, 0, none⟩) 1 1] tr))
  rw [s1] at i1
  refine ⟨⟨_, _, rfl, rfl, Nat.le_refl _, by unfold maxLen; omega, fun i hi => ⟨_, _, rfl, ?_⟩⟩, fun i hi => ?_⟩
  · have c := cell_new ((W.alloc (Obj.cells #[.int .i64 1] ti)).alloc (Obj.cells #[.int .i64 1] ti)) #[.slice (some ⟨W.heap.size, 0, none⟩) 1 1, .slice (some ⟨W.heap.size + 1, 0, none⟩) 1 1] tr i
    rw [s2] at c
    have h0 : i = 0 ∨ i = 1 := by simp at hi; omega
    rcases h0 with rfl | rfl
    · exact c
    · rw [show 0 + 1 = 1 from rfl]; exact c
  · have h0 : i = 0 ∨ i = 1 := by simp at hi; omega
    rcases h0 with rfl | rfl
    · exact i0
    · exact i1
theorem mix11 {p : Int} (h : 23 ≤ p) : mxU p (fun i => fpow p 2 i) [[1], [1]] (nthL [[1], [1]] 0).length ([[1], [1]] : List (List Int)).length = [3] := by
  have e1 : fpow p 2 0 = 1 := by unfold fpow; rw [Int.pow_zero]; exact Int.emod_eq_of_lt (by omega) (by omega)
  have e2 : fpow p 2 1 = 2 := by unfold fpow; rw [Int.pow_succ, Int.pow_zero]; exact Int.emod_eq_of_lt (by omega) (by omega)
  have e3 : fmul p 1 1 = 1 := by unfold fmul; exact Int.emod_eq_of_lt (by omega) (by omega)
  have e4 : fmul p 2 1 = 2 := by unfold fmul; exact Int.emod_eq_of_lt (by omega) (by omega)
  have e5 : fadd p 0 1 = 1 := by unfold fadd; exact Int.emod_eq_of_lt (by omega) (by omega)
  have e6 : fadd p 1 2 = 3 := by unfold fadd; exact Int.emod_eq_of_lt (by omega) (by omega)
  simp [mxU, addc, nthL, e1, e2, e3, e4, e5, e6]
theorem bad11 : rowsBad [[1], [1]] = false := by decide
theorem one3 {P : Program} {w : World} {u : Value} {x : Int} {t e bytes : Nat} {z : Value} (ht : SlT P t e 1 bytes z) (hu : Ints w u [x]) : (∀ ty w', (Builtin.len_ #[t] ty #[u]).run P w' = .ok (.int .i64 1) w') ∧ (∀ w', (Instr.indexAt t u (.int .i64 0)).run P w' = .ok (.pointer (some (elt u 0 1))) w') ∧ w.cell? (elt u 0 1) = some (.int .i64 x) :=
  ⟨fun ty w' => hu.run_len ht ty w', fun w' => hu.run_index ht 0 (by simp) w', hu.cell 0 (by simp)⟩
/-- A chain is kept where another block alone is turned. -/
theorem chp_keep {W W' w0 : World} {b c : Nat} {s : Value} {D : List Int} (h : ChP W b s D) (hd : DigNew w0 W b) (hg : W.grownBy W' (some c)) (hbc : b ≠ c) (hc : c < w0.heap.size) : ChP W' b s D := by
  obtain ⟨v, h1, h2⟩ := h.c1
  have hb := World.block_lt_of_cell? W _ h.c0
  have e := hg.block b hb (fun e => hbc (Option.some.inj e))
  refine ⟨by rw [World.cell?_of_block (a := ⟨b, 0, none⟩) e]; exact h.c0, ⟨v, by rw [World.cell?_of_block (a := ⟨b, 1, none⟩) e]; exact h1, h2.grown hg (fun q hq e => ?_)⟩, by rw [World.frozen?_of_block (a := ⟨b, 1, none⟩) e]; exact h.f1⟩
  have h3 := hd v h1 q hq
  have := Option.some.inj e
  omega
end Go.Att
namespace Go.Proofs.YtcpnidomdkaefaaGreatDoor
open Go.RowKit Go.Att
/-- Where both pledges are taken, show all and say two things: both openings are of one tree, and a leaf differs. -/
theorem binds_prem {p g sh : Int} (hp : Pr p) (hg : IsGen p g) {n : Nat} (hn : 1 ≤ n) (hd : (p - 1) % n = 0) (hs : ¬ p ∣ sh) {k v asked : Nat} (hroom : roomB n v = true) {D D' at_ : List Int} {o o' : Pld} {z z' : Int}
    (e1 : plV p k sh (froot p g n) n D v at_ asked o = (z, true)) (e2 : plV p k sh (froot p g n) n D' v at_ asked o' = (z', true)) (hr : sameB p o.root o'.root = true) (l1 : o.places.length = n) (l2 : o'.places.length = n) (hz : z ≠ z') :
    treeB p k o.root n o.places o.rows o.nodes = true ∧ treeB p k o.root n o.places o'.rows o'.nodes = true ∧ o'.places = o.places ∧ ∃ i, i < n ∧ (nthL o.rows i).map (fof p) ≠ (nthL o'.rows i).map (fof p) := by
  unfold plV at e1 e2
  by_cases c1 : (plFit (v - v / 2) o && (plShow p k n (v / 2) o (plL p k D o at_ n asked) && plAll p sh (froot p g n) (plR p k D o at_) (v / 2) at_ o (plL p k D o at_ n asked))) = true
  case neg => rw [if_neg c1] at e1; simp at e1
  by_cases c2 : (plFit (v - v / 2) o' && (plShow p k n (v / 2) o' (plL p k D' o' at_ n asked) && plAll p sh (froot p g n) (plR p k D' o' at_) (v / 2) at_ o' (plL p k D' o' at_ n asked))) = true
  case neg => rw [if_neg c2] at e2; simp at e2
  rw [if_pos c1] at e1
  rw [if_pos c2] at e2
  obtain ⟨rfl, -⟩ := Prod.mk.inj e1
  obtain ⟨rfl, -⟩ := Prod.mk.inj e2
  simp only [Bool.and_eq_true] at c1 c2
  obtain ⟨f1, s1, a1⟩ := c1
  obtain ⟨f2, s2, a2⟩ := c2
  have t1 := s1
  have t2 := s2
  unfold plShow showsB at t1 t2
  simp only [Bool.and_eq_true] at t1 t2
  have u1 := t1.2
  have u2 := t2.2
  have b1 := u1
  have b2 := u2
  unfold treeB at b1 b2
  simp only [Bool.and_eq_true] at b1 b2
  have hpl : o'.places = o.places := by
    apply List.ext_getElem (by omega)
    intro i h1 h2
    rw [← nth_eq h1, ← nth_eq h2, full_at b2.1.2 l2 (by omega), full_at b1.1.2 l1 (by omega)]
  rw [sameB_iff, decide_eq_true_eq] at hr
  refine ⟨u1, ?_, hpl, ?_⟩
  · rw [← hpl]
    unfold treeB at u2 ⊢
    have hl : o.root.length = o'.root.length := by have := congrArg List.length hr; simpa using this
    rw [hr, hl]; exact u2
  · apply Classical.byContradiction
    intro hno
    refine hz (same_num hp hg hn hd hs f1 f2 s1 s2 a1 a2 l1 l2 ?_ fun i hi => Classical.byContradiction fun h => hno ⟨i, hi, h⟩)
    unfold roomB at hroom
    rw [decide_eq_true_eq] at hroom
    have : ((2 ^ (v - v / 2) : Nat) : Int) = 2 ^ (v - v / 2) := by push_cast; rfl
    omega
section
variable {r0 r1 r2 r3 r4 r5 q0 q1 q2 q3 q4 q5 : Value} {o o' : Pld}
set_option maxRecDepth 100000 in
set_option maxHeartbeats 4000000 in
theorem pledgeBinds_bad (p n sh : Int) (vs vo : Value) (v : Int) (va : Value) (asked : Int) (w : World) (h : ¬ okT p n sh) (hg : Hnd w) :
    Calls Tryz.prog 4 #[.int .i64 p, .int .i64 n, .int .i64 sh, vs, vo, .int .i64 v, va, .int .i64 asked, .agg #[r0, r1, r2, r3, r4, r5], .agg #[q0, q1, q2, q3, q4, q5]] w fun e w' => e = .returned (.bool true) ∧ Ext w w' := by
  have H := Lib.hid h; have HG := Lib.hid hg; clear h hg
  have HX0 := Lib.hid ((Ext.alloc w (Obj.cells #[r0, r1, r2, r3, r4, r5] 27)).trans (Ext.alloc _ (Obj.cells #[q0, q1, q2, q3, q4, q5] 27)))
  go_enter Tryz.func4, Tryz.ntmps4
  go_wp2_with (go_at_call 6; refine (things_bad _ _ _ _ H.out (HG.out.ext HX0.out)).mono ?_; rintro e w' ⟨v, rfl, hx, rfl⟩)
  go_ret
  exact ⟨rfl, HX0.out.trans hx⟩
set_option maxRecDepth 100000 in
set_option maxHeartbeats 16000000 in
theorem pledgeBinds_ok (p n sh : Int) (vs vo : Value) (v : Int) (va : Value) (asked : Int) (seed seed' at_ : List Int) (w : World) (h : okT p n sh) (hg : Hnd w) (hs : Ints w vs seed) (hsl : seed.length ≤ 1048576) (hs' : Ints w vo seed') (hsl' : seed'.length ≤ 1048576) (ha : Ints w va at_) (ho : PldAt w r0 r1 r2 r3 r4 r5 o) (hle : PldLe o 1048576) (ho' : PldAt w q0 q1 q2 q3 q4 q5 o') (hle' : PldLe o' 1048576) :
    Calls Tryz.prog 4 #[.int .i64 p, .int .i64 n, .int .i64 sh, vs, vo, .int .i64 v, va, .int .i64 asked, .agg #[r0, r1, r2, r3, r4, r5], .agg #[q0, q1, q2, q3, q4, q5]] w fun e w' => e = .returned (.bool true) ∧ Ext w w' := by
  have H := Lib.hid h; have HG := Lib.hid hg; have HSD := Lib.hid hs; have HSE := Lib.hid hs'; have HA := Lib.hid ha; have HO := Lib.hid ho; have HLE := Lib.hid hle; have HO' := Lib.hid ho'; have HLE' := Lib.hid hle'
  have hp2 : p ≤ 2147483647 := h.1.2.2
  have h23 : 23 ≤ p := h.2.1
  obtain ⟨htw, hdv, hsz⟩ := domErr_ok h.2.2
  have hn12 := twoB_bd htw
  have hsh : 0 ≤ fof p sh ∧ fof p sh < p := ⟨Int.emod_nonneg _ (by omega), Int.emod_lt_of_pos _ (by omega)⟩
  have HND : Hid (¬ p ∣ fof p sh) := Lib.hid (fun hd => by
    obtain ⟨c, hc⟩ := hd
    have : fof p sh = 0 := by
      have h1 := Int.emod_eq_of_lt hsh.1 hsh.2
      rw [hc, Int.mul_emod_right] at h1
      rw [hc]; exact h1.symm
    exact hsz this)
  obtain ⟨nn, rfl⟩ : ∃ m : Nat, n = (m : Int) := ⟨n.toNat, by omega⟩
  have HDV := Lib.hid hdv
  have hx1 := Ext.alloc w (Obj.cells #[r0, r1, r2, r3, r4, r5] 27)
  have hx2 := Ext.alloc (w.alloc (Obj.cells #[r0, r1, r2, r3, r4, r5] 27)) (Obj.cells #[q0, q1, q2, q3, q4, q5] 27)
  have HX0 := Lib.hid (hx1.trans hx2)
  have HB := Lib.hid ((BlkOf.new w [r0, r1, r2, r3, r4, r5] 27).ext hx2)
  have hb2 := BlkOf.new (w.alloc (Obj.cells #[r0, r1, r2, r3, r4, r5] 27)) [q0, q1, q2, q3, q4, q5] 27
  rw [World.size_alloc] at hb2
  have HB' := Lib.hid hb2
  have hl3 := ho.places.run_len (P := Tryz.prog) slInts
  have hl3' := ho'.places.run_len (P := Tryz.prog) slInts
  clear h hg hs hs' ha ho hle ho' hle' htw hdv hsh hsz hx1 hx2 hb2
  go_enter Tryz.func4, Tryz.ntmps4
  go_upto_region 1 with (fail)
  generalize (w.alloc (Obj.cells #[r0, r1, r2, r3, r4, r5] 27)).alloc (Obj.cells #[q0, q1, q2, q3, q4, q5] 27) = W0 at *
  go_upto_region 4 with (go_at_call 6; refine (things_ok _ _ _ _ H.out (HG.out.ext HX0.out)).mono ?_; rintro e w1 ⟨v, rfl, hx, s, f, g, d, rfl, hs, hf, hd⟩; obtain ⟨bd, rfl⟩ := hd.ptr; obtain ⟨bf, rfl⟩ := hf.ptr; obtain ⟨bs, k, rt, rfl, hpw, hsp⟩ := hs; obtain ⟨fs, hfs⟩ := hf.fld; have c0 := hsp.c0; have HFO := Lib.hid hf; have HD := Lib.hid hd; have HPW := Lib.hid hpw; have HSP := Lib.hid hsp; have HFS := Lib.hid hfs; have HX1 := Lib.hid hx; clear hf hd hpw hsp hx hfs)
  have HSS : Hid (Spg w1 (.pointer (some ⟨bs, 0, none⟩)) p k) := Lib.hid ⟨bs, bf, rt, g, fs, rfl, HSP.out, HFS.out, pw_le HPW.out h23 hp2⟩
  have HXW := Lib.hid (HX0.out.trans HX1.out)
  have hxa := ((Ext.alloc w1 (Obj.cells #[.int .i64 1] 3)).trans (Ext.alloc _ (Obj.cells #[.int .i64 1] 3))).trans (Ext.alloc _ (Obj.cells #[.slice (some ⟨w1.heap.size, 0, none⟩) 1 1, .slice (some ⟨w1.heap.size + 1, 0, none⟩) 1 1] 22))
  have cm := mix_ok (HFS.out.ext hxa) (⟨_, rws11 w1 3 22⟩ : Rws _ _ _) 2 (by decide) bad11
  rw [mix11 h23] at cm
  have HXA := Lib.hid hxa
  have CM := Lib.hid cm
  clear hxa cm
  go_upto_region 5 with (go_at_call 13; refine (sfieldof_any c0).mono ?_; rintro e w' ⟨rfl, rfl⟩)
  refine CM.out.mono ?_
  rintro e w2 ⟨_, rfl, hx2, u, rfl, hu⟩
  obtain ⟨hlu, hxu, hcu⟩ := one3 (P := Tryz.prog) slInts hu
  have HX2 := Lib.hid (HXA.out.trans hx2)
  clear hu hx2 HXA CM
  go_upto_region 7 with (fail)
  clear hlu hxu hcu c0
  have HXV := Lib.hid (HXW.out.trans HX2.out)
  have HS2 := Lib.hid (HSS.out.ext HX2.out)
  have HD2 := Lib.hid (HD.out.ext HX2.out)
  have HF2 := Lib.hid (HFS.out.ext HX2.out)
  have HB2 := Lib.hid (HB.out.ext (HX1.out.trans HX2.out))
  have HB2' := Lib.hid (HB'.out.ext (HX1.out.trans HX2.out))
  clear HB HB' HSS HD HFS
  have CN := Lib.hid (cnew_any HS2.out vs seed (HSD.out.ext HXV.out) (by omega))
  go_upto_region 8 with (go_at_call 7; refine CN.out.mono ?_; rintro e w3 ⟨v3, rfl, hx3, rfl, hc3, -⟩; have HX3 := Lib.hid hx3; have HC3 := Lib.hid hc3; clear hx3 hc3)
  have HXV3 := Lib.hid (HXV.out.trans HX3.out)
  have CE := Lib.hid (cnew_any (HS2.out.ext HX3.out) vo seed' (HSE.out.ext HXV3.out) (by omega))
  clear CN
  have HSZ : Hid (w2.heap.size < w3.heap.size) := Lib.hid (World.block_lt_of_cell? w3 _ HC3.out.c0)
  go_upto_region 11 with (go_at_call 7; refine CE.out.mono ?_; rintro e w4 ⟨v4, rfl, hx4, rfl, hc4, hd4⟩; have HX4 := Lib.hid hx4; have HC4 := Lib.hid hc4; have HD4 := Lib.hid hd4; clear hx4 hc4 hd4)
  clear CE
  have HC3' := Lib.hid (HC3.out.ext HX4.out)
  have HX24 := Lib.hid (HX3.out.trans HX4.out)
  generalize hcb1 : w2.heap.size = cb1 at *
  generalize hcb2 : w3.heap.size = cb2 at *
  have HCB1 := Lib.hid hcb1
  have HCB2 := Lib.hid hcb2
  clear hcb1 hcb2
  have hpair : ∃ z z' : Int, ∃ y y' : Bool, Hid (Calls Tryz.prog 8 #[.pointer (some ⟨bs, 0, none⟩), .pointer (some ⟨cb1, 0, none⟩), .pointer (some ⟨bd, 0, none⟩), .int .i64 v, va, .int .i64 asked, .agg #[r0, r1, r2, r3, r4, r5]] w4 (PlGot w4 cb1 z y)) ∧
      Hid (∀ W, Ext w2 W → ChP W cb2 (.pointer (some ⟨bs, 0, none⟩)) (stepP p k 2 [] seed') → Calls Tryz.prog 8 #[.pointer (some ⟨bs, 0, none⟩), .pointer (some ⟨cb2, 0, none⟩), .pointer (some ⟨bd, 0, none⟩), .int .i64 v, va, .int .i64 asked, .agg #[q0, q1, q2, q3, q4, q5]] W (PlGot W cb2 z' y')) ∧
      Hid (y = true → y' = true → sameB p o.root o'.root = true → o.places.length = nn → o'.places.length = nn → z ≠ z' → treeB p k o.root nn o.places o.rows o.nodes = true ∧ treeB p k o.root nn o.places o'.rows o'.nodes = true ∧ o'.places = o.places ∧ ∃ i, i < nn ∧ (nthL o.rows i).map (fof p) ≠ (nthL o'.rows i).map (fof p)) := by
    by_cases hc : 0 ≤ v ∧ v ≤ 12 ∧ roomB nn v.toNat = true ∧ (at_.length : Int) = v ∧ 1 ≤ asked ∧ asked ≤ 64
    · obtain ⟨vn, rfl⟩ : ∃ m : Nat, v = (m : Int) := ⟨v.toNat, by omega⟩
      obtain ⟨an, rfl⟩ : ∃ m : Nat, asked = (m : Int) := ⟨asked.toNat, by omega⟩
      rw [Int.toNat_natCast] at hc
      obtain ⟨-, c2, c3, c4, c5, c6⟩ := hc
      have i1 := HCB1.out
      have i2 := HSZ.out
      refine ⟨_, _, _, _, Lib.hid (pcheck_ok HS2.out (by omega) hp2 nn HD2.out HF2.out (by omega) (by omega) vn (by omega) c3 (by omega) an (by omega) (by omega) HX24.out (by omega) (HA.out.ext HXV.out) (HO.out.ext HXV.out) HLE.out HC3'.out (stepP_length _ _ _ _ _)), Lib.hid fun W h1 h2 => pcheck_ok HS2.out (by omega) hp2 nn HD2.out HF2.out (by omega) (by omega) vn (by omega) c3 (by omega) an (by omega) (by omega) h1 (by omega) (HA.out.ext HXV.out) (HO'.out.ext HXV.out) HLE'.out h2 (stepP_length _ _ _ _ _), Lib.hid fun e1 e2 hr l1 l2 hz => ?_⟩
      exact binds_prem H.out.1.1 HFO.out.gen (by omega) HDV.out HND.out c3 (Prod.ext rfl e1) (Prod.ext rfl e2) hr l1 l2 hz
    · refine ⟨0, 0, false, false, Lib.hid ((pcheck_bad (HD2.out.ext HX24.out) v asked hn12.1 hn12.2 (HA.out.ext (HXV.out.trans HX24.out)) hc).mono fun e w' h => ⟨h.1, h.2.grownBy _⟩), Lib.hid fun W h1 h2 => (pcheck_bad (HD2.out.ext h1) v asked hn12.1 hn12.2 (HA.out.ext (HXV.out.trans h1)) hc).mono fun e w' h => ⟨h.1, h.2.grownBy _⟩, Lib.hid fun e => by cases e⟩
  obtain ⟨z, z', y, y', CP, CR, HPR⟩ := hpair
  have HBE := Lib.hid (HB2.out.ext HX24.out)
  have m0 : w4.cell? ⟨w.heap.size, 0, none⟩ = some r0 := HBE.out.cell 0
  have m1 : w4.cell? ⟨w.heap.size, 1, none⟩ = some r1 := HBE.out.cell 1
  have m2 : w4.cell? ⟨w.heap.size, 2, none⟩ = some r2 := HBE.out.cell 2
  have m3 : w4.cell? ⟨w.heap.size, 3, none⟩ = some r3 := HBE.out.cell 3
  have m4 : w4.cell? ⟨w.heap.size, 4, none⟩ = some r4 := HBE.out.cell 4
  have m5 : w4.cell? ⟨w.heap.size, 5, none⟩ = some r5 := HBE.out.cell 5
  go_upto_region 12 with (go_at_call 8; refine CP.out.mono ?_; rintro e w5 ⟨rfl, hg5⟩; have HG5 := Lib.hid hg5; clear hg5)
  clear m0 m1 m2 m3 m4 m5 CP HBE
  have HX5 := Lib.hid (show Ext w2 w5 from Below.grown HX24.out.below HG5.out HX24.out.size (fun k e => by cases e; have := HCB1.out; omega))
  have HC5 := Lib.hid (chp_keep HC4.out HD4.out HG5.out (by have := HSZ.out; have := HCB2.out; have := HCB1.out; omega) (by have := HSZ.out; have := HCB2.out; have := HCB1.out; omega))
  have CR2 := Lib.hid (CR.out w5 HX5.out HC5.out)
  have HBE := Lib.hid (HB2'.out.ext HX5.out)
  have m0 : w5.cell? ⟨w.heap.size + 1, 0, none⟩ = some q0 := HBE.out.cell 0
  have m1 : w5.cell? ⟨w.heap.size + 1, 1, none⟩ = some q1 := HBE.out.cell 1
  have m2 : w5.cell? ⟨w.heap.size + 1, 2, none⟩ = some q2 := HBE.out.cell 2
  have m3 : w5.cell? ⟨w.heap.size + 1, 3, none⟩ = some q3 := HBE.out.cell 3
  have m4 : w5.cell? ⟨w.heap.size + 1, 4, none⟩ = some q4 := HBE.out.cell 4
  have m5 : w5.cell? ⟨w.heap.size + 1, 5, none⟩ = some q5 := HBE.out.cell 5
  go_upto_region 13 with (go_at_call 8; refine CR2.out.mono ?_; rintro e w6 ⟨rfl, hg6⟩; have HG6 := Lib.hid hg6; clear hg6)
  clear m0 m1 m2 m3 m4 m5 CR CR2 HBE
  have HX6 := Lib.hid (show Ext w2 w6 from Below.grown HX5.out.below HG6.out HX5.out.size (fun k e => by cases e; have := HCB1.out; have := HCB2.out; have := HSZ.out; omega))
  have HXZ := Lib.hid (HXV.out.trans HX6.out)
  have HBE := Lib.hid (HB2.out.ext HX6.out)
  have HBE' := Lib.hid (HB2'.out.ext HX6.out)
  have m0 : w6.cell? ⟨w.heap.size, 0, none⟩ = some r0 := HBE.out.cell 0
  have m3 : w6.cell? ⟨w.heap.size, 3, none⟩ = some r3 := HBE.out.cell 3
  have m4 : w6.cell? ⟨w.heap.size, 4, none⟩ = some r4 := HBE.out.cell 4
  have m5 : w6.cell? ⟨w.heap.size, 5, none⟩ = some r5 := HBE.out.cell 5
  have j0 : w6.cell? ⟨w.heap.size + 1, 0, none⟩ = some q0 := HBE'.out.cell 0
  have j3 : w6.cell? ⟨w.heap.size + 1, 3, none⟩ = some q3 := HBE'.out.cell 3
  have j4 : w6.cell? ⟨w.heap.size + 1, 4, none⟩ = some q4 := HBE'.out.cell 4
  have j5 : w6.cell? ⟨w.heap.size + 1, 5, none⟩ = some q5 := HBE'.out.cell 5
  have CS := Lib.hid (rsame_any p (by omega) hp2 (HO.out.root.ext HXZ.out) (HO'.out.root.ext HXZ.out))
  obtain ⟨rs, hrs⟩ : ∃ rs, sameB p o.root o'.root = rs := ⟨_, rfl⟩
  rw [hrs] at CS HPR
  clear hrs
  go_upto_region 14 with (go_at_call 14; refine CS.out.mono ?_; rintro e w7 ⟨rfl, rfl⟩)
  clear CS
  cases y with
  | false =>
    go_wp2_with fail
    go_ret
    exact ⟨rfl, HXZ.out⟩
  | true =>
  cases y' with
  | false =>
    go_wp2_with fail
    go_ret
    exact ⟨rfl, HXZ.out⟩
  | true =>
  cases rs with
  | false =>
    go_wp2_with fail
    go_ret
    exact ⟨rfl, HXZ.out⟩
  | true =>
  by_cases hl1 : o.places.length = nn
  case neg =>
    have e1 : ((o.places.length : Int) != (nn : Int)) = true := by rw [bne_iff_ne]; omega
    clear hl1
    go_wp2_with fail
    go_ret
    exact ⟨rfl, HXZ.out⟩
  by_cases hl2 : o'.places.length = nn
  case neg =>
    rw [hl1] at hl3
    have e1 : ((o'.places.length : Int) != (nn : Int)) = true := by rw [bne_iff_ne]; omega
    clear hl1 hl2
    go_wp2_with fail
    go_ret
    exact ⟨rfl, HXZ.out⟩
  rw [hl1] at hl3
  rw [hl2] at hl3'
  by_cases hz : z = z'
  · subst hz
    clear hl1 hl2
    have hzz : (z == z) = true := beq_self_eq_true z
    go_wp2_with fail
    go_ret
    exact ⟨rfl, HXZ.out⟩
  have hzz : (z == z') = false := beq_eq_false_iff_ne.2 hz
  obtain ⟨t1, t2, t3, t4⟩ := HPR.out rfl rfl rfl hl1 hl2 hz
  obtain ⟨RR, hRR⟩ := HO.out.rows
  obtain ⟨NR, hNR⟩ := HO.out.nodes
  obtain ⟨RR', hRR'⟩ := HO'.out.rows
  obtain ⟨NR', hNR'⟩ := HO'.out.nodes
  have hbd1 := HLE.out.places
  have hbd2 := HLE.out.row
  have hbd3 := HLE'.out.row
  have CC := Lib.hid (collide_any (by omega) (HS2.out.ext HX6.out) (HO.out.root.ext HXZ.out) (HO.out.places.ext HXZ.out) (hRR.ext HXZ.out) (hNR.ext HXZ.out) (by have := HO'.out.places.ext HXZ.out; rw [t3] at this; exact this) (hRR'.ext HXZ.out) (hNR'.ext HXZ.out) (by omega) (fun i hi => Nat.le_trans (hbd2 i hi) (by decide)) (fun i hi => Nat.le_trans (hbd3 i hi) (by decide)) nn (by omega) (by omega) t1 t2 hl1 t4)
  clear t1 t2 t3 t4 hRR hNR hRR' hNR' hbd1 hbd2 hbd3 hl1 hl2 hz HPR
  go_upto_region 17 with (go_at_call 15; refine CC.out.mono ?_; rintro e w7 ⟨x, y, l, l', rfl, hx7, i1, i2, i3, i4, i5, i6, i7, i8⟩; have HX7 := Lib.hid hx7; have HI1 := Lib.hid i1; have HI2 := Lib.hid i2; have HI3 := Lib.hid i3; have HI6 := Lib.hid (show sameB p l l' = false from by rw [sameB_iff, i4, i5, decide_eq_false i6]); have HI7 := Lib.hid (And.intro i7 i8); clear hx7 i1 i2 i3 i4 i5 i6 i7 i8)
  clear CC m0 m3 m4 m5 j0 j3 j4 j5
  have CH1 := Lib.hid (hashG_any ((HS2.out.ext HX6.out).ext HX7.out) x l HI1.out (by have := HI7.out; omega))
  go_upto_region 20 with (go_at_call 16; refine CH1.out.mono ?_; rintro e w8 ⟨u8, rfl, hx8, hu8, -⟩; have HX8 := Lib.hid hx8; have HU8 := Lib.hid hu8; clear hx8 hu8)
  clear CH1
  have CH2 := Lib.hid (hashG_any (((HS2.out.ext HX6.out).ext HX7.out).ext HX8.out) y l' (HI2.out.ext HX8.out) (by have := HI7.out; omega))
  go_upto_region 21 with (go_at_call 16; refine CH2.out.mono ?_; rintro e w9 ⟨u9, rfl, hx9, hu9, -⟩; have HX9 := Lib.hid hx9; have HU9 := Lib.hid hu9; clear hx9 hu9)
  clear CH2
  have CI := Lib.hid (sints_any u8 u9 _ _ w9 (HU8.out.ext HX9.out) HU9.out)
  rw [decide_eq_true HI3.out] at CI
  have CS := Lib.hid (fun m => rsame_any (w := w9.drewN m) p (by omega) hp2 (HI1.out.ext (HX8.out.trans (HX9.out.trans (Ext.drewN w9 m)))) (HI2.out.ext (HX8.out.trans (HX9.out.trans (Ext.drewN w9 m)))))
  rw [HI6.out] at CS
  go_upto_region 22 with (go_at_call 17; refine CI.out.mono ?_; rintro e w10 ⟨rfl, m10, rfl⟩)
  go_wp2_with (go_at_call 14; refine (CS.out _).mono ?_; rintro e w11 ⟨rfl, rfl⟩)
  go_ret
  exact ⟨rfl, HXZ.out.trans (HX7.out.trans (HX8.out.trans (HX9.out.trans (Ext.drewN _ _))))⟩
end
end Go.Proofs.YtcpnidomdkaefaaGreatDoor
