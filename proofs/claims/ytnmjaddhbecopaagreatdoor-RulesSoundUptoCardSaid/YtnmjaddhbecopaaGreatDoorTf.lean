/- Tables: the program's contract. -/
import Derived.Test.YtnmjaddhbecopaaGreatDoorZx7
import Derived.Test.YtnmjaddhbecopaaGreatDoorZx4
import Derived.Test.YtnmjaddhbecopaaGreatDoorZx16
import Derived.BigRegion
namespace Go.Att
open Go.RowKit
/-- What a table comes to, as it lies. -/
def TGot (ty : TypeId) (w : World) (r : Tr) (e : Ending) (w' : World) : Prop :=
  match r with
  | .ok T out => ∃ v, e = .returned (.tuple #[v, .int .i64 out, .nilIface]) ∧ Rws w' v T ∧ Ext w w'
  | .no k => e = .returned (.tuple #[.slice none 0 0, .int .i64 0, .iface ty (.int .i64 k)]) ∧ Ext w w'
end Go.Att
namespace Go.Proofs.YtnmjaddhbecopaaGreatDoor
open Go.RowKit Go.Att
theorem slRowsT : SlT Tryz.prog 22 23 1 24 (.slice none 0 0) := .mk' Tryz.underlying22 (by kernel_rfl) (by decide)
theorem slPairT : SlT Tryz.prog 177 179 2 16 (.agg #[.int .i64 0, .int .i64 0]) := .mk' Tryz.underlying177 (by kernel_rfl) (by decide)
theorem arr3_all (sb off : Nat) (w : World) : (Instr.sliceAt 188 (.pointer (some ⟨sb, off, none⟩)) none none none).run Tryz.prog w = .ok (.slice (some ⟨sb, off, none⟩) 3 3) w := by kernel_rfl
theorem src3 {w : World} {b : Nat} {cs : List Value} {t : TypeId} (h : BlkOf w b cs t) (off : Nat) {x y z : Value} (h0 : cs[off]? = some x) (h1 : cs[off + 1]? = some y) (h2 : cs[off + 2]? = some z) : ∀ (j : Nat) (v : Value), [x, y, z][j]? = some v → w.cell? ((⟨b, off, none⟩ : Addr).add j) = some v := by
  intro j v hv
  rw [Addr.add_lit, h.cell]
  match j, hv with
  | 0, hv => simp at hv; subst hv; exact h0
  | 1, hv => simp at hv; subst hv; exact h1
  | 2, hv => simp at hv; subst hv; exact h2
  | j + 3, hv => simp at hv
section
variable {w : World} {p g : Int} {fs : List Int} {sz : Int} {lv : Value} {cd : List In4} {n : Int}
set_option maxRecDepth 100000 in
set_option maxHeartbeats 4000000 in
theorem table_size {f : Value} (hc : Inqs w lv cd) (h : n < 1 ∨ 512 < n ∨ 64 < cd.length) : Calls Tryz.prog 105 #[f, .agg #[.int .i64 sz, lv], .int .i64 n] w (TGot 112 w (tableM p sz cd n)) := by
  have HR := Lib.hid (show tableM p sz cd n = .no 2 by unfold tableM; rw [if_pos h])
  rw [HR.out]
  obtain ⟨ao, cap, rfl⟩ := hc.shape
  have hll := fun w' => hc.run_len (P := Tryz.prog) slIns 3 w'
  have hcl := hc.len
  have HX0 := Lib.hid (Ext.alloc w (Obj.cells #[.int .i64 sz, .slice ao cd.length cap] 48))
  clear hc
  by_cases h1 : n < 1
  · clear h
    go_enter Tryz.func105, Tryz.ntmps105
    go_wp2_with fail
    go_ret3
    exact ⟨rfl, HX0.out⟩
  by_cases h2 : 512 < n
  · clear h
    go_enter Tryz.func105, Tryz.ntmps105
    go_wp2_with fail
    go_ret3
    exact ⟨rfl, HX0.out⟩
  · have h3 : (64 : Int) < (cd.length : Int) := by omega
    clear h
    go_enter Tryz.func105, Tryz.ntmps105
    go_wp2_with fail
    go_ret3
    exact ⟨rfl, HX0.out⟩
set_option maxRecDepth 100000 in
set_option maxHeartbeats 16000000 in
theorem table_any {f : Value} (hf : Fld w f p g fs) (hc : Inqs w lv cd) : Calls Tryz.prog 105 #[f, .agg #[.int .i64 sz, lv], .int .i64 n] w (TGot 112 w (tableM p sz cd n)) := by
  by_cases h : n < 1 ∨ 512 < n ∨ 64 < cd.length
  · exact table_size hc h
  have hp2 := hf.two
  have hhi := hf.hi
  have HR : Hid (tableM p sz cd n = match walkM p sz cd (n - 1) with
    | .no k => .no k
    | .done l out _ => if n < (missL l).length then .no 9 else .ok (tabL p cd l n.toNat) out) := Lib.hid (by unfold tableM; rw [if_neg h]; cases walkM p sz cd (n - 1) <;> rfl)
  obtain ⟨ao, cap, rfl⟩ := hc.shape
  obtain ⟨bf, rfl⟩ := hf.ptr
  have hll := fun w' => hc.run_len (P := Tryz.prog) slIns 3 w'
  have hx := Ext.alloc w (Obj.cells #[.int .i64 sz, .slice ao cd.length cap] 48)
  have HX0 := Lib.hid hx; have HF := Lib.hid (hf.ext hx); have HC := Lib.hid (hc.ext hx)
  have HK := Lib.hid (BlkOf.new w [.int .i64 sz, .slice ao cd.length cap] 48)
  clear hf hc hx
  have hn1 : 1 ≤ n := by omega
  have hn2 : n ≤ 512 := by omega
  have hcl : (cd.length : Int) ≤ 64 := by omega
  clear h
  go_enter Tryz.func105, Tryz.ntmps105
  go_upto_region 1 with (fail)
  generalize w.alloc (Obj.cells #[.int .i64 sz, .slice ao cd.length cap] 48) = W0 at *
  generalize hkb : w.heap.size = kb at *
  have HKB := Lib.hid hkb
  clear hkb
  have e0 : W0.cell? ⟨kb, 0, none⟩ = some (.int .i64 sz) := HK.out.cell 0
  have e1 : W0.cell? ⟨kb, 1, none⟩ = some (.slice ao cd.length cap) := HK.out.cell 1
  go_wp2_with fail
  refine (mwalk_any (sz := sz) (lim := n - 1) HF.out HC.out).mono ?_
  intro e w1 hpw
  clear e0 e1
  cases hR : walkM p sz cd (n - 1) with
  | no k =>
    have HRR := Lib.hid (show tableM p sz cd n = .no k by rw [HR.out, hR])
    rw [hR] at hpw
    obtain ⟨rfl, hx1⟩ := hpw
    have HX1 := Lib.hid (HX0.out.trans hx1)
    clear hx1 hR HR
    go_wp2_with fail
    go_ret3
    rw [HRR.out]
    exact ⟨rfl, HX1.out⟩
  | done l out mem =>
    have hok := walkM_ok hp2 hR
    rw [hR] at hpw
    obtain ⟨sv, rfl, hsv, hl5, hx1⟩ := hpw
    have HX1 := Lib.hid (HX0.out.trans hx1); have HK1 := Lib.hid (HK.out.ext hx1); have HF1 := Lib.hid (HF.out.ext hx1); have HC1 := Lib.hid (HC.out.ext hx1); have HS1 := Lib.hid hsv
    have HOK := Lib.hid hok
    clear hx1 HX0 HK HF HC hsv
    go_wp2_with fail
    refine (holes_any HS1.out hl5 (fun t ht j => by have := hok.at_ t ht j; omega)).mono ?_
    rintro e w2 ⟨mv, rfl, hm, hx2⟩
    have hlm := fun w' => hm.run_len (P := Tryz.prog) slIntT 3 w'
    have HX2 := Lib.hid (HX1.out.trans hx2); have HK2 := Lib.hid (HK1.out.ext hx2); have HF2 := Lib.hid (HF1.out.ext hx2); have HC2 := Lib.hid (HC1.out.ext hx2); have HS2 := Lib.hid (Sl.ext HS1.out hx2)
    have HM2 := Lib.hid hm
    clear hx2 HX1 HK1 HF1 HC1 HS1 hm hok
    by_cases h9 : n < (missL l).length
    · have HRR := Lib.hid (show tableM p sz cd n = .no 9 by rw [HR.out, hR]; dsimp only; rw [if_pos h9])
      have h9' : n < (((missL l).take 513).length : Int) := by rw [List.length_take]; omega
      clear hR HR h9
      generalize (missL l).take 513 = H at *
      go_wp2_with fail
      go_ret3
      rw [HRR.out]
      exact ⟨rfl, HX2.out⟩
    · obtain ⟨nn, rfl⟩ := Int.eq_ofNat_of_zero_le (show 0 ≤ n by omega)
      have HRR := Lib.hid (show tableM p sz cd nn = .ok (tabL p cd l nn) out by rw [HR.out, hR]; dsimp only; rw [if_neg h9, Int.toNat_natCast])
      rw [List.take_of_length_le (by omega)] at HM2 hlm
      have h9' : ¬ (nn : Int) < ((missL l).length : Int) := h9
      have HTL := Lib.hid (show tabL p cd l nn = (List.range nn).map fun r => rowK p cd (stpAt l r) (nth (missL l) r) (sortP (prsT l (missL l) nn)) (4 * nn) r from rfl)
      clear hR HR h9
      generalize missL l = ms at *
      go_upto_region 12 with (refine wpList_mk0 rfl _ _ 22 rfl slRowsT (Ext.refl w2) rfl rfl (by omega) (by omega) (by omega) ?_; intro v12 w3 HO3 HX3 _; have HO3H := Lib.hid HO3; have HX3H := Lib.hid HX3; clear HO3 HX3)
      obtain ⟨SS, hSS⟩ : ∃ S, sortP (prsT l ms nn) = S := ⟨_, rfl⟩
      rw [hSS] at HTL
      have HSS := Lib.hid hSS
      clear hSS
      have hms : ms.length ≤ nn := by omega
      have hn5 : nn ≤ 512 := by omega
      have hcd := show cd.length ≤ 64 by omega
      obtain ⟨L', hL⟩ : ∃ L', l.length = L' + 1 := ⟨l.length - 1, by have := HOK.out.ne; omega⟩
      have hL2 : L' ≤ 16384 := by omega
      have HL := Lib.hid hL
      have hls : ∀ w', (Builtin.len_ #[189] 3 #[sv]).run Tryz.prog w' = .ok (.int .i64 ((L' : Int) + 1)) w' := fun w' => by
        have := Sl.run_len (P := Tryz.prog) HS2.out slStep 3 w'
        rw [show ((l.length : Nat) : Int) = (L' : Int) + 1 by omega] at this; exact this
      clear hL hl5 hcl hn1 hn2 h9'
      go_loopw [12, 13, 55] (fun x12 x13 x55 wr => ∃ (i : Nat) (bs : Nat → Nat), i ≤ nn ∧ x55 = .int .i64 i ∧ Hid (RowsAt wr w2.heap.size 3 23 x12 i (20 + cd.length) bs (fun r => rowK p cd (stpAt l r) (nth ms r) SS 0 r)) ∧ Hid (wr.ownsRow w2.heap.size 179 2 x13 (4 * i) (flatP (prsT l ms i))) ∧ Hid (Ext w2 wr)) (fun _ _ x55 _ => nn - (intOf x55).toNat)
      case atStart => exact ⟨0, fun _ => 0, Nat.zero_le _, rfl, Lib.hid ⟨by simpa using HO3H.out, fun r hr => by omega, fun r hr => by omega, fun r s h1 h2 => by omega, by decide⟩, Lib.hid (World.ownsRow_nil _ _ _ _), HX3H⟩
      case round =>
        clear HO3H HX3H
        obtain ⟨i, bs, hi, rfl, HRW, HPS, HX⟩ := hrel
        obtain ⟨va, vc, rfl⟩ := own_shape HRW.out.own
        obtain ⟨pa, pc, rfl⟩ := own_shape HPS.out
        by_cases hil : i < nn
        · obtain ⟨k, hkd⟩ : ∃ k, k = min i (l.length - 1) := ⟨_, rfl⟩
          obtain ⟨c0, c1, c2, c3, c4, c5, c6, c7, c8, c9⟩ := stp_cells (Sl.ext HS2.out HX.out) HOK.out.ne i hkd
          have hkl : k < l.length := by have := HOK.out.ne; omega
          have hix : ∀ w', (Instr.indexAt 189 sv (.int .i64 (min (i : Int) (L' : Int)))).run Tryz.prog w' = .ok (.pointer (some (elt sv k 10))) w' := fun w' => by
            have := Sl.run_index (P := Tryz.prog) HS2.out slStep (k : Int) (by omega) (by omega) w'
            rw [Int.toNat_natCast] at this
            rw [show min (i : Int) (L' : Int) = (k : Int) by have := HL.out; omega]
            exact this
          have htm := stpAt_mem HOK.out.ne i
          have hst := HOK.out.stp _ htm
          have hisb := HOK.out.is_ _ htm
          obtain ⟨m, hm⟩ : ∃ m, nth ms i = m := ⟨_, rfl⟩
          have HMI := Lib.hid hm
          obtain ⟨t, ht⟩ : ∃ t, stpAt l i = t := ⟨_, rfl⟩
          rw [ht] at c0 c1 c2 c3 c4 c5 c6 c7 c8 c9 hst hisb
          obtain ⟨q, hq⟩ := Int.eq_ofNat_of_zero_le hst.pc.1
          rw [hq] at c0
          have hqc : q < cd.length := by have := hst.pc; omega
          have HT := Lib.hid ht; have HQ := Lib.hid hq
          clear htm hst ht hq hm hkd hkl
          go_upto_region 15 with (fail)
          have hxn := Ext.alloc wr (Obj.cells #[.int .i64 (q : Int), .int .i64 t.fp, .int .i64 t.ap, .int .i64 t.rv, .int .i64 (accA t.acc 0), .int .i64 (accA t.acc 1), .int .i64 (accA t.acc 2), .int .i64 (accI t.acc 0), .int .i64 (accI t.acc 1), .int .i64 (accI t.acc 2)] 247)
          have HBN := Lib.hid (BlkOf.new wr [.int .i64 (q : Int), .int .i64 t.fp, .int .i64 t.ap, .int .i64 t.rv, .int .i64 (accA t.acc 0), .int .i64 (accA t.acc 1), .int .i64 (accA t.acc 2), .int .i64 (accI t.acc 0), .int .i64 (accI t.acc 1), .int .i64 (accI t.acc 2)] 247)
          have HRL : Hid (∀ r, r < i → bs r < wr.heap.size) := Lib.hid fun r hr => (HRW.out.row r hr).lt
          have HRW5 := Lib.hid (HRW.out.ext hxn); have HPS5 := Lib.hid (own_ext HPS.out hxn); have HX5 := Lib.hid (HX.out.trans hxn)
          clear c0 c1 c2 c3 c4 c5 c6 c7 c8 c9 hxn HRW HPS HX hix
          generalize wr.alloc (Obj.cells #[.int .i64 (q : Int), .int .i64 t.fp, .int .i64 t.ap, .int .i64 t.rv, .int .i64 (accA t.acc 0), .int .i64 (accA t.acc 1), .int .i64 (accA t.acc 2), .int .i64 (accI t.acc 0), .int .i64 (accI t.acc 1), .int .i64 (accI t.acc 2)] 247) = W5 at *
          generalize wr.heap.size = sb at *
          have e0 : W5.cell? ⟨kb, 0, none⟩ = some (.int .i64 sz) := (HK2.out.ext HX5.out).cell 0
          have e1 : W5.cell? ⟨kb, 1, none⟩ = some (.slice ao cd.length cap) := (HK2.out.ext HX5.out).cell 1
          go_upto_region 16 with (first | (go_at_call 72; refine (twidth_any _ _ _ _ (HC2.out.ext HX5.out) (by omega)).mono ?_; rintro e w6 ⟨rfl, hx6⟩) | (refine wpList_mkRow rfl _ _ 23 rfl slIntT rfl rfl (n := 20 + cd.length) (by omega) (by omega) ?_; intro w7 hb7 hg7))
          have hx7 := ext_none hg7
          have HB7 := Lib.hid hb7
          have HX7 := Lib.hid (HX5.out.trans (hx6.trans hx7)); have HRW7 := Lib.hid (HRW5.out.ext (hx6.trans hx7)); have HPS7 := Lib.hid (own_ext HPS5.out (hx6.trans hx7)); have HBN7 := Lib.hid (HBN.out.ext (hx6.trans hx7))
          have HSR : Hid (sb < w6.heap.size) := Lib.hid (by have := HBN.out.lt; have := hx6.size; omega)
          have HRR6 : Hid (∀ r, r < i → bs r < w6.heap.size) := Lib.hid fun r hr => by have := HRL.out r hr; have := HSR.out; omega
          have HBR : Hid (w2.heap.size ≤ w6.heap.size) := Lib.hid (by have := HX5.out.size; have := hx6.size; omega)
          clear e0 e1 hx6 hx7 hg7 hb7 HX5 HRW5 HPS5 HBN HRL
          generalize w6.heap.size = rb at *
          have s0 : w7.cell? ⟨sb, 0, none⟩ = some (.int .i64 (q : Int)) := HBN7.out.cell 0
          have s1 : w7.cell? ⟨sb, 1, none⟩ = some (.int .i64 t.fp) := HBN7.out.cell 1
          have s2 : w7.cell? ⟨sb, 2, none⟩ = some (.int .i64 t.ap) := HBN7.out.cell 2
          have s3 : w7.cell? ⟨sb, 3, none⟩ = some (.int .i64 t.rv) := HBN7.out.cell 3
          have rz : ∀ k, k < 20 + cd.length → w7.cell? ⟨rb, k, none⟩ = some (.int .i64 0) := fun k hk => by rw [HB7.out.cell]; simp [hk]
          have r0 := rz 0 (by omega)
          have r1 := rz 1 (by omega)
          have r2 := rz 2 (by omega)
          have r3 := rz (20 + q) (by omega)
          have f0 := HB7.out.free 0
          have f1 := HB7.out.free 1
          have f2 := HB7.out.free 2
          have f3 := HB7.out.free (20 + q)
          have hq64 : q < 64 := by omega
          have hml : 20 + cd.length ≤ maxLen := by unfold maxLen; omega
          have i0 : ∀ w', (Instr.indexAt 23 (.slice (some ⟨rb, 0, none⟩) (20 + cd.length) (20 + cd.length)) (.int .i64 0)).run Tryz.prog w' = .ok (.pointer (some ⟨rb, 0, none⟩)) w' := fun w' => run_ixB slIntT rb (i := 0) (by omega) hml w'
          have i1 : ∀ w', (Instr.indexAt 23 (.slice (some ⟨rb, 0, none⟩) (20 + cd.length) (20 + cd.length)) (.int .i64 1)).run Tryz.prog w' = .ok (.pointer (some ⟨rb, 1, none⟩)) w' := fun w' => run_ixB slIntT rb (i := 1) (by omega) hml w'
          have i2 : ∀ w', (Instr.indexAt 23 (.slice (some ⟨rb, 0, none⟩) (20 + cd.length) (20 + cd.length)) (.int .i64 2)).run Tryz.prog w' = .ok (.pointer (some ⟨rb, 2, none⟩)) w' := fun w' => run_ixB slIntT rb (i := 2) (by omega) hml w'
          have i3 : ∀ w', (Instr.indexAt 23 (.slice (some ⟨rb, 0, none⟩) (20 + cd.length) (20 + cd.length)) (.int .i64 (20 + (q : Int)))).run Tryz.prog w' = .ok (.pointer (some ⟨rb, 20 + q, none⟩)) w' := fun w' => by
            have := run_ixB (P := Tryz.prog) slIntT rb (n := 20 + cd.length) (i := 20 + q) (by omega) hml w'
            rw [show ((20 + q : Nat) : Int) = 20 + (q : Int) by omega] at this
            exact this
          clear rz
          go_upto_region 17 with (fail)
          have hg8 := grown_one (grown_one (grown_one (setCell_grown w7 rb 0 (.int .i64 t.fp)) (setCell_grown _ rb 1 (.int .i64 t.ap))) (setCell_grown _ rb 2 (.int .i64 t.rv))) (setCell_grown _ rb (20 + q) (.int .i64 1))
          have HB8 : Hid (BlkOf _ rb (mk1 (20 + cd.length) t.fp t.ap t.rv q) 3) := Lib.hid ((((HB7.out.set 0 (.int .i64 t.fp)).set 1 (.int .i64 t.ap)).set 2 (.int .i64 t.rv)).set (20 + q) (.int .i64 1))
          have HX8 := Lib.hid ((Turned.one (c := rb) hg8).ext HX7.out HBR.out HBR.out)
          have HRW8 := Lib.hid (HRW7.out.kept hg8 (own_not_blk HRW7.out.own HB7.out (by decide)) (fun r hr => by have := HRR6.out r hr; omega))
          have hpn := own_not_blk HPS7.out HB7.out (by decide)
          have HPS8 := Lib.hid ((Turned.one (c := rb) hg8).own HPS7.out hpn hpn)
          have HBN8 := Lib.hid (HBN7.out.grown hg8 (fun e => by have := Option.some.inj e; have := HSR.out; omega))
          clear r0 r1 r2 r3 f0 f1 f2 f3 s0 s1 s2 s3 i0 i1 i2 i3 hg8 hpn HB7 HX7 HRW7 HPS7 HBN7
          revert HB8 HX8 HRW8 HPS8 HBN8
          generalize World.setCell _ ⟨rb, 20 + q, none⟩ _ = W8
          intro HB8 HX8 HRW8 HPS8 HBN8
          have j1 : ∀ w', (Instr.sliceAt 23 (.slice (some ⟨rb, 0, none⟩) (20 + cd.length) (20 + cd.length)) (some (.int .i64 3)) none none).run Tryz.prog w' = .ok (.slice (some ⟨rb, 3, none⟩) (20 + cd.length - 3) (20 + cd.length - 3)) w' := fun w' => run_from slIntT rb (k := 3) (by omega) (by omega) w'
          have j2 : ∀ w', (Instr.sliceAt 188 (.pointer (some ⟨sb, 4, none⟩)) none none none).run Tryz.prog w' = .ok (.slice (some ⟨sb, 4, none⟩) 3 3) w' := fun w' => arr3_all sb 4 w'
          refine wp_region_quiet_tail 4 (by kernel_rfl) (by kernel_rfl) ?_
          simp only [List.take_succ_cons, List.take_zero, List.drop_succ_cons, List.drop_zero]
          repeat (go_big_quiet_step (fail))
          refine wpQuiet_nil ?_
          rintro _ ⟨nq, rfl⟩
          have hdr := Ext.drewN W8 nq
          have hbq := HB8.out.ext hdr
          have hbs := HBN8.out.ext hdr
          have hcp : (Builtin.copy_ #[23, 23] 3 #[.slice (some ⟨rb, 3, none⟩) (20 + cd.length - 3) (20 + cd.length - 3), .slice (some ⟨sb, 4, none⟩) 3 3]).run Tryz.prog (W8.drewN nq) = .ok (.int .i64 3) ((W8.drewN nq).setRow rb (mk2 (mk1 (20 + cd.length) t.fp t.ap t.rv q) (accA t.acc 0) (accA t.acc 1) (accA t.acc 2)).toArray) :=
            run_copy_row (P := Tryz.prog) (W8.drewN nq) 23 23 3 3 rb 3 (20 + cd.length - 3) (20 + cd.length - 3) ⟨sb, 4, none⟩ 3 3 (mk1 (20 + cd.length) t.fp t.ap t.rv q).toArray 3 [.int .i64 (accA t.acc 0), .int .i64 (accA t.acc 1), .int .i64 (accA t.acc 2)] Tryz.underlying23 (by kernel_rfl) hbq (by show 3 = min 3 _; omega) (src3 hbs 4 rfl rfl rfl) (by simp [mk1]; omega) (by intro u hu; simp at hu; rcases hu with rfl | rfl | rfl <;> rfl)
          go_upto_region 18 with (fail)
          have hgq := grown_one (grown_ext (hdr.grownBy (some rb)) (Ext.refl _)) (setRow_grown (W8.drewN nq) rb (mk2 (mk1 (20 + cd.length) t.fp t.ap t.rv q) (accA t.acc 0) (accA t.acc 1) (accA t.acc 2)).toArray)
          have HB9 := Lib.hid (BlkOf.row (ds := mk2 (mk1 (20 + cd.length) t.fp t.ap t.rv q) (accA t.acc 0) (accA t.acc 1) (accA t.acc 2)) hbq)
          have HX9 := Lib.hid ((Turned.one (c := rb) hgq).ext HX8.out HBR.out HBR.out)
          have HRW9 := Lib.hid (HRW8.out.kept hgq (own_not_blk HRW8.out.own HB8.out (by decide)) (fun r hr => by have := HRR6.out r hr; omega))
          have hpn := own_not_blk HPS8.out HB8.out (by decide)
          have HPS9 := Lib.hid ((Turned.one (c := rb) hgq).own HPS8.out hpn hpn)
          have HBN9 := Lib.hid (HBN8.out.grown hgq (fun e => by have := Option.some.inj e; have := HSR.out; omega))
          clear hcp j1 j2 hdr hbq hbs hgq hpn HB8 HX8 HRW8 HPS8 HBN8
          revert HB9 HX9 HRW9 HPS9 HBN9
          show _ → _ → _ → _ → _ → Code.wp _ _ _ _ ((W8.drewN nq).setRow rb (mk2 (mk1 (20 + cd.length) t.fp t.ap t.rv q) (accA t.acc 0) (accA t.acc 1) (accA t.acc 2)).toArray)
          generalize World.setRow _ rb _ = W9
          intro HB9 HX9 HRW9 HPS9 HBN9
          have j1 : ∀ w', (Instr.sliceAt 23 (.slice (some ⟨rb, 0, none⟩) (20 + cd.length) (20 + cd.length)) (some (.int .i64 7)) none none).run Tryz.prog w' = .ok (.slice (some ⟨rb, 7, none⟩) (20 + cd.length - 7) (20 + cd.length - 7)) w' := fun w' => run_from slIntT rb (k := 7) (by omega) (by omega) w'
          have j2 : ∀ w', (Instr.sliceAt 188 (.pointer (some ⟨sb, 7, none⟩)) none none none).run Tryz.prog w' = .ok (.slice (some ⟨sb, 7, none⟩) 3 3) w' := fun w' => arr3_all sb 7 w'
          refine wp_region_quiet_tail 4 (by kernel_rfl) (by kernel_rfl) ?_
          simp only [List.take_succ_cons, List.take_zero, List.drop_succ_cons, List.drop_zero]
          repeat (go_big_quiet_step (fail))
          refine wpQuiet_nil ?_
          rintro _ ⟨nq, rfl⟩
          have hdr := Ext.drewN W9 nq
          have hbq := HB9.out.ext hdr
          have hbs := HBN9.out.ext hdr
          have hcp : (Builtin.copy_ #[23, 23] 3 #[.slice (some ⟨rb, 7, none⟩) (20 + cd.length - 7) (20 + cd.length - 7), .slice (some ⟨sb, 7, none⟩) 3 3]).run Tryz.prog (W9.drewN nq) = .ok (.int .i64 3) ((W9.drewN nq).setRow rb (mk3 (mk2 (mk1 (20 + cd.length) t.fp t.ap t.rv q) (accA t.acc 0) (accA t.acc 1) (accA t.acc 2)) (accI t.acc 0) (accI t.acc 1) (accI t.acc 2)).toArray) :=
            run_copy_row (P := Tryz.prog) (W9.drewN nq) 23 23 3 3 rb 7 (20 + cd.length - 7) (20 + cd.length - 7) ⟨sb, 7, none⟩ 3 3 (mk2 (mk1 (20 + cd.length) t.fp t.ap t.rv q) (accA t.acc 0) (accA t.acc 1) (accA t.acc 2)).toArray 3 [.int .i64 (accI t.acc 0), .int .i64 (accI t.acc 1), .int .i64 (accI t.acc 2)] Tryz.underlying23 (by kernel_rfl) hbq (by show 3 = min 3 _; omega) (src3 hbs 7 rfl rfl rfl) (by simp [mk1, mk2]; omega) (by intro u hu; simp at hu; rcases hu with rfl | rfl | rfl <;> rfl)
          go_upto_region 19 with (fail)
          have hgq := grown_one (grown_ext (hdr.grownBy (some rb)) (Ext.refl _)) (setRow_grown (W9.drewN nq) rb (mk3 (mk2 (mk1 (20 + cd.length) t.fp t.ap t.rv q) (accA t.acc 0) (accA t.acc 1) (accA t.acc 2)) (accI t.acc 0) (accI t.acc 1) (accI t.acc 2)).toArray)
          have HB10 := Lib.hid (BlkOf.row (ds := mk3 (mk2 (mk1 (20 + cd.length) t.fp t.ap t.rv q) (accA t.acc 0) (accA t.acc 1) (accA t.acc 2)) (accI t.acc 0) (accI t.acc 1) (accI t.acc 2)) hbq)
          have HX10 := Lib.hid ((Turned.one (c := rb) hgq).ext HX9.out HBR.out HBR.out)
          have HRW10 := Lib.hid (HRW9.out.kept hgq (own_not_blk HRW9.out.own HB9.out (by decide)) (fun r hr => by have := HRR6.out r hr; omega))
          have hpn := own_not_blk HPS9.out HB9.out (by decide)
          have HPS10 := Lib.hid ((Turned.one (c := rb) hgq).own HPS9.out hpn hpn)
          have HBN10 := Lib.hid (HBN9.out.grown hgq (fun e => by have := Option.some.inj e; have := HSR.out; omega))
          clear hcp j1 j2 hdr hbq hbs hgq hpn HB9 HX9 HRW9 HPS9 HBN9
          revert HB10 HX10 HRW10 HPS10 HBN10
          show _ → _ → _ → _ → _ → Code.wp _ _ _ _ ((W9.drewN nq).setRow rb (mk3 (mk2 (mk1 (20 + cd.length) t.fp t.ap t.rv q) (accA t.acc 0) (accA t.acc 1) (accA t.acc 2)) (accI t.acc 0) (accI t.acc 1) (accI t.acc 2)).toArray)
          generalize World.setRow _ rb _ = W10
          intro HB10 HX10 HRW10 HPS10 HBN10
          have hml : 20 + cd.length ≤ maxLen := by unfold maxLen; omega
          have hXl : (mk3 (mk2 (mk1 (20 + cd.length) t.fp t.ap t.rv q) (accA t.acc 0) (accA t.acc 1) (accA t.acc 2)) (accI t.acc 0) (accI t.acc 1) (accI t.acc 2)).length = 20 + cd.length := mk3_length (mk2_length (mk1_length _ _ _ _ _) (by omega) _ _ _) (by omega) _ _ _
          have HRM := Lib.hid (row_made (p := p) (cd := cd) HQ.out m SS i)
          have HSX := Lib.hid (mk3_six cd.length t.fp t.ap t.rv q (accA t.acc 0) (accA t.acc 1) (accA t.acc 2) (accI t.acc 0) (accI t.acc 1) (accI t.acc 2))
          generalize mk3 (mk2 (mk1 (20 + cd.length) t.fp t.ap t.rv q) (accA t.acc 0) (accA t.acc 1) (accA t.acc 2)) (accI t.acc 0) (accI t.acc 1) (accI t.acc 2) = X at *
          have HXL := Lib.hid hXl
          by_cases hmi : i < ms.length
          case' pos =>
            have him := HM2.out.run_index (P := Tryz.prog) slIntT i hmi
            have hcm := (HM2.out.ext HX10.out).cell i hmi
            rw [HMI.out] at hcm
            have i6 : ∀ w', (Instr.indexAt 23 (.slice (some ⟨rb, 0, none⟩) (20 + cd.length) (20 + cd.length)) (.int .i64 6)).run Tryz.prog w' = .ok (.pointer (some ⟨rb, 6, none⟩)) w' := fun w' => run_ixB slIntT rb (i := 6) (by omega) hml w'
            obtain ⟨y6, r6⟩ : ∃ y, W10.cell? ⟨rb, 6, none⟩ = some y := ⟨_, by rw [HB10.out.cell]; exact List.getElem?_eq_getElem (by omega)⟩
            have f6 := HB10.out.free 6
            clear hXl
            go_upto_region 21 with (fail)
            have hg := setCell_grown W10 rb 6 (.int .i64 m)
            have HB11 := Lib.hid (HB10.out.set 6 (.int .i64 m))
            have HX11 := Lib.hid ((Turned.one (c := rb) hg).ext HX10.out HBR.out HBR.out)
            have HRW11 := Lib.hid (HRW10.out.kept hg (own_not_blk HRW10.out.own HB10.out (by decide)) (fun r hr => by have := HRR6.out r hr; omega))
            have hpn := own_not_blk HPS10.out HB10.out (by decide)
            have HPS11 := Lib.hid ((Turned.one (c := rb) hg).own HPS10.out hpn hpn)
            have HBN11 := Lib.hid (HBN10.out.grown hg (fun e => by have := Option.some.inj e; have := HSR.out; omega))
            clear him hcm i6 r6 f6 hg hpn HB10 HX10 HRW10 HPS10 HBN10
            revert HB11 HX11 HRW11 HPS11 HBN11
            generalize World.setCell _ ⟨rb, 6, none⟩ _ = W11
            intro HB11 HX11 HRW11 HPS11 HBN11
          case' neg =>
            have hm0 : m = 0 := by rw [← HMI.out]; unfold nth; rw [List.getD_eq_getElem?_getD, List.getElem?_eq_none (by omega)]; rfl
            have HB11 : Hid (BlkOf W10 rb (X.set 6 (.int .i64 m)) 3) := Lib.hid (by rw [hm0, HSX.out]; exact HB10.out)
            clear hm0 hXl HB10
            have HX11 := HX10; have HRW11 := HRW10; have HPS11 := HPS10; have HBN11 := HBN10
            clear HX10 HRW10 HPS10 HBN10
            generalize W10 = W11 at *
            go_upto_region 21 with (fail)
          all_goals
            have e1 : W11.cell? ⟨kb, 1, none⟩ = some (.slice ao cd.length cap) := (HK2.out.ext HX11.out).cell 1
            have s0 : W11.cell? ⟨sb, 0, none⟩ = some (.int .i64 (q : Int)) := HBN11.out.cell 0
            have s7 : W11.cell? ⟨sb, 7, none⟩ = some (.int .i64 (accI t.acc 0)) := HBN11.out.cell 7
            have s8 : W11.cell? ⟨sb, 8, none⟩ = some (.int .i64 (accI t.acc 1)) := HBN11.out.cell 8
            have s9 : W11.cell? ⟨sb, 9, none⟩ = some (.int .i64 (accI t.acc 2)) := HBN11.out.cell 9
            have hiq := HC2.out.run_index (P := Tryz.prog) slIns q hqc
            have d0 := (HC2.out.ext HX11.out).c0 q hqc
            have i11 : ∀ w', (Instr.indexAt 23 (.slice (some ⟨rb, 0, none⟩) (20 + cd.length) (20 + cd.length)) (.int .i64 11)).run Tryz.prog w' = .ok (.pointer (some ⟨rb, 11, none⟩)) w' := fun w' => run_ixB slIntT rb (i := 11) (by omega) hml w'
            refine wp_region_move_quiet_tail 11 _ (by kernel_rfl) rfl rfl (by kernel_rfl) ?_
            simp only [List.take_succ_cons, List.take_zero, List.drop_succ_cons, List.drop_zero]
            repeat (go_big_quiet_step (fail))
            refine wpQuiet_nil ?_
            rintro _ ⟨nq, rfl⟩
            have hdr := Ext.drewN W11 nq
            have HB12 := Lib.hid (HB11.out.ext hdr); have HX12 := Lib.hid (HX11.out.trans hdr); have HRW12 := Lib.hid (HRW11.out.ext hdr); have HPS12 := Lib.hid (own_ext HPS11.out hdr)
            clear e1 s0 s7 s8 s9 hiq d0 hdr HB11 HX11 HRW11 HPS11 HBN11
            generalize W11.drewN nq = W12 at *
            have HIN : Hid (hintS p cd t = hintM p (nthI cd q).op (accI t.acc 0) (accI t.acc 1)) := Lib.hid (by unfold hintS; rw [HQ.out, Int.toNat_natCast])
            go_upto_region 22 with (go_at_call 182; refine (helped_any (HF2.out.ext HX12.out) _ _ _ _).mono ?_; rintro e w13 ⟨rfl, hx13⟩; have hb13 := HB12.out.ext hx13; obtain ⟨y11, r11⟩ : ∃ y, w13.cell? ⟨rb, 11, none⟩ = some y := ⟨_, by rw [hb13.cell]; exact List.getElem?_eq_getElem (by rw [List.length_set]; have := HXL.out; omega)⟩; have f11 := hb13.free 11)
            have hg := setCell_grown w13 rb 11 (.int .i64 (hintM p (nthI cd q).op (accI t.acc 0) (accI t.acc 1)))
            have HBF : Hid (BlkOf (w13.setCell ⟨rb, 11, none⟩ (.int .i64 (hintM p (nthI cd q).op (accI t.acc 0) (accI t.acc 1)))) rb ((rowK p cd (stpAt l i) (nth ms i) SS 0 i).map (Value.int .i64)) 3) := Lib.hid (by rw [HT.out, HMI.out, ← HRM.out, HIN.out]; exact hb13.set 11 _)
            have hrw13 := HRW12.out.ext hx13
            have hps13 := own_ext HPS12.out hx13
            have hpn := own_not_blk hps13 hb13 (by decide)
            have HX14 := Lib.hid ((Turned.one (c := rb) hg).ext (HX12.out.trans hx13) HBR.out HBR.out)
            have HRW14 := Lib.hid (hrw13.kept hg (own_not_blk hrw13.own hb13 (by decide)) (fun r hr => by have := HRR6.out r hr; omega))
            have HPS14 := Lib.hid ((Turned.one (c := rb) hg).own hps13 hpn hpn)
            clear r11 f11 i11 hb13 hx13 hg hrw13 hps13 hpn HB12 HX12 HRW12 HPS12
            revert HBF HX14 HRW14 HPS14
            generalize World.setCell _ ⟨rb, 11, none⟩ _ = W14
            intro HBF HX14 HRW14 HPS14
            refine NoPan.normal ?_
            have hbase : w2.heap.size ≤ W14.heap.size := HX14.out.size
            go_wp2_with (at_builtin; refine wpList_appNw rfl _ _ 22 rfl slRowsT rfl hbase HRW14.out.own rfl #[.slice (some ⟨rb, 0, none⟩) (20 + cd.length) (20 + cd.length)] rfl (by intro u hu; simp at hu; subst hu; rfl) rfl (by omega) (by omega) ?_; intro v15 w15 HO15 HG15 _; obtain ⟨va2, vc2, rfl⟩ := own_shape HO15; have HRW15 := Lib.hid (HRW14.out.push HBF.out HBR.out (fun r hr => by have := HRR6.out r hr; omega) HO15 HG15); have HPS15 := Lib.hid (row_grown2 HPS14.out HRW14.out.own (by decide) HG15); have HX15 := Lib.hid (Ext.own_grown HX14.out HRW14.out.own HG15); clear HO15 HG15 hbase)
            have HRQ : Hid ((fun r => if r = i then rb else bs r) i = rb) := Lib.hid (by simp)
            clear HRW14 HPS14 HX14 HBF
            generalize (fun r => if r = i then rb else bs r) = bs2 at *
            go_loopw [13, 123] (fun x13 x123 ws => ∃ k : Nat, k ≤ 4 ∧ x123 = .int .i64 k ∧ Hid (RowsAt ws w2.heap.size 3 23 (.slice va2 (i + 1) vc2) (i + 1) (20 + cd.length) bs2 (fun r => rowK p cd (stpAt l r) (nth ms r) SS 0 r)) ∧ Hid (ws.ownsRow w2.heap.size 179 2 x13 (4 * i + k) (flatP (prsT l ms i ++ (prs4 t m).take k))) ∧ Hid (Ext w2 ws)) (fun _ x123 _ => 4 - (intOf x123).toNat)
            case atStart => exact ⟨0, by omega, rfl, HRW15, Lib.hid (by simpa using HPS15.out), HX15⟩
            case round =>
              clear HRW15 HPS15 HX15
              obtain ⟨k, hk, rfl, HRK, HPK, HXK⟩ := hrel
              generalize wr = W16 at *
              obtain ⟨pa2, pc2, rfl⟩ := own_shape HPK.out
              by_cases hk4 : k < 4
              · have hbr := HRK.out.row i (by omega)
                rw [HRQ.out] at hbr
                obtain ⟨x, hx⟩ : ∃ x, nthP (prs4 t m) k = x := ⟨_, rfl⟩
                obtain ⟨z3, z7⟩ := row_read (p := p) (cd := cd) (t := stpAt l i) (m := nth ms i) (S := SS) (r := i) hk4
                rw [HT.out, HMI.out, hx] at z3 z7
                rw [HT.out, HMI.out] at hbr
                have q3 : W16.cell? ⟨rb, 3 + k, none⟩ = some (.int .i64 x.1) := by rw [hbr.cell]; exact z3
                have q7 : W16.cell? ⟨rb, 7 + k, none⟩ = some (.int .i64 x.2) := by rw [hbr.cell]; exact z7
                have HTK := Lib.hid (show (prs4 t m).take (k + 1) = (prs4 t m).take k ++ [x] by rw [prs4_take hk4, hx])
                have w3' : IntKind.i64.wrap (3 + (k : Int)) = 3 + (k : Int) := IntWalk.i64_in _ (by omega)
                have w7' : IntKind.i64.wrap (7 + (k : Int)) = 7 + (k : Int) := IntWalk.i64_in _ (by omega)
                have j3 : ∀ w', (Instr.indexAt 23 (.slice (some ⟨rb, 0, none⟩) (20 + cd.length) (20 + cd.length)) (.int .i64 (3 + (k : Int)))).run Tryz.prog w' = .ok (.pointer (some ⟨rb, 3 + k, none⟩)) w' := fun w' => by
                  have := run_ixB (P := Tryz.prog) slIntT rb (n := 20 + cd.length) (i := 3 + k) (by omega) hml w'
                  rw [show ((3 + k : Nat) : Int) = 3 + (k : Int) by omega] at this
                  exact this
                have j7 : ∀ w', (Instr.indexAt 23 (.slice (some ⟨rb, 0, none⟩) (20 + cd.length) (20 + cd.length)) (.int .i64 (7 + (k : Int)))).run Tryz.prog w' = .ok (.pointer (some ⟨rb, 7 + k, none⟩)) w' := fun w' => by
                  have := run_ixB (P := Tryz.prog) slIntT rb (n := 20 + cd.length) (i := 7 + k) (by omega) hml w'
                  rw [show ((7 + k : Nat) : Int) = 7 + (k : Int) by omega] at this
                  exact this
                clear z3 z7 hbr hx
                go_upto_region 26 with (fail)
                refine wp_region_move_quiet_tail 11 _ (by kernel_rfl) rfl rfl (by kernel_rfl) ?_
                simp only [List.take_succ_cons, List.take_zero, List.drop_succ_cons, List.drop_zero]
                repeat (go_big_quiet_step (fail))
                refine wpQuiet_nil ?_
                rintro _ ⟨nq2, rfl⟩
                have hdr := Ext.drewN W16 nq2
                have HRK2 := Lib.hid (HRK.out.ext hdr); have HPK2 := Lib.hid (own_ext HPK.out hdr); have HXK2 := Lib.hid (HXK.out.trans hdr)
                clear q3 q7 w3' w7' j3 j7 hdr HRK HPK HXK
                generalize W16.drewN nq2 = W17 at *
                have hbase := HXK2.out.size
                go_wp2_with (at_builtin; refine wpList_appNw rfl _ _ 177 rfl slPairT rfl hbase HPK2.out rfl #[.int .i64 x.1, .int .i64 x.2] rfl (by intro u hu; simp at hu; rcases hu with rfl | rfl <;> rfl) rfl (by omega) (by omega) ?_; intro v18 w18 HO18 HG18 _; obtain ⟨pa3, pc3, rfl⟩ := own_shape HO18; have HO18H := Lib.hid HO18; have HRK3 := Lib.hid (HRK2.out.kept' HG18 (own_ne_own2 HRK2.out.own HPK2.out (by decide)) (fun r hr => own_not_blk HPK2.out (HRK2.out.row r hr) (by decide))); have HXK3 := Lib.hid (Ext.own_grown HXK2.out HPK2.out HG18); clear HO18 HG18 hbase)
                refine NoPan.normal ?_
                go_wp2_with fail
                go_roundw
                case rel => exact ⟨k + 1, by omega, by go_num, HRK3, Lib.hid (by rw [HTK.out, ← List.append_assoc, flatP_snoct]; exact HO18H.out), HXK3⟩
                case measure => simp [intOf]; omega
              · obtain rfl : k = 4 := by omega
                have HPE : Hid (W16.ownsRow w2.heap.size 179 2 (.slice pa2 (4 * i + 4) pc2) (4 * (i + 1)) (flatP (prsT l ms (i + 1)))) := Lib.hid (by rw [prsT_succ, HT.out, HMI.out]; exact HPK.out)
                go_wp2_with fail
                go_roundw
                case rel => exact ⟨i + 1, bs2, by omega, by go_num, HRK, HPE, HXK⟩
                case measure => simp [intOf]; omega
        · obtain rfl : i = nn := by omega
          have hlp : (prsT l ms i).length ≤ 4611686018427387903 := by rw [prsT_length]; omega
          have HNR : Hid (∀ r, r < i → (Value.slice pa (4 * i) pc).ownBlock ≠ some (bs r)) := Lib.hid fun r hr => own_not_blk HPS.out (HRW.out.row r hr) (by decide)
          have HNV := Lib.hid (own_ne_own2 HRW.out.own HPS.out (by decide))
          have HSL : Hid (SS.length = 4 * i) := Lib.hid (by rw [← HSS.out, (sortP_perm _).length_eq, prsT_length])
          generalize hN : 4 * i = N at *
          have HN := Lib.hid hN
          clear hN
          go_upto_region 30 with (go_at_call 111; refine (sortPair_any HPS.out hlp).mono ?_; rintro e w4 ⟨rfl, hg4, hv4⟩)
          rw [HSS.out] at hv4
          have HRW4 := Lib.hid (HRW.out.kept' hg4 HNV.out HNR.out)
          have HV4 := Lib.hid hv4
          have HX4 := Lib.hid (Ext.own_grown HX.out HPS.out hg4)
          have hN2 : N ≤ 2048 := by have := HN.out; omega
          clear hg4 hv4 HRW HPS HX hlp
          go_wp2_with fail
          go_loopw [146] (fun x146 wr => ∃ j : Nat, j ≤ N ∧ x146 = .int .i64 j ∧ Hid (RowsAt wr w2.heap.size 3 23 (.slice va i vc) i (20 + cd.length) bs (fun r => rowK p cd (stpAt l r) (nth ms r) SS j r)) ∧ Hid (Prs wr (.slice pa N pc) SS) ∧ Hid (Ext w2 wr)) (fun x146 _ => N - (intOf x146).toNat)
          case atStart => exact ⟨0, Nat.zero_le _, rfl, HRW4, HV4, HX4⟩
          case round =>
            clear HRW4 HV4 HX4
            obtain ⟨j, hj, rfl, HRJ, HVJ, HXJ⟩ := hrel
            by_cases hjl : j < N
            · obtain ⟨r, k, hjr, hk4⟩ : ∃ r k, j = 4 * r + k ∧ k < 4 := ⟨j / 4, j % 4, by omega, by omega⟩
              have hri : r < i := by have := HN.out; omega
              have hjs : j < SS.length := by have := HSL.out; have := HN.out; omega
              have hip := HVJ.out.run_index (P := Tryz.prog) slPairT j hjs
              have c1 := HVJ.out.fst j hjs
              have c2 := HVJ.out.snd j hjs
              have HJS := Lib.hid hjs; have HRI := Lib.hid hri; have HJR := Lib.hid hjr
              have hxa := Ext.alloc wr (Obj.cells #[.int .i64 (nthP SS j).1, .int .i64 (nthP SS j).2] 179)
              have HBP := Lib.hid (BlkOf.new wr [.int .i64 (nthP SS j).1, .int .i64 (nthP SS j).2] 179)
              have HRJ2 := Lib.hid (HRJ.out.ext hxa); have HVJ2 := Lib.hid (HVJ.out.ext hxa); have HXJ2 := Lib.hid (HXJ.out.trans hxa)
              have hrow := HRJ2.out.row_at hri (Ext.refl _)
              have hir : ∀ w', (Instr.indexAt 22 (.slice va i vc) (.int .i64 ((j : Int) / 4))).run Tryz.prog w' = .ok (.pointer (some (elt (.slice va i vc) r 1))) w' := fun w' => by
                have := Sl.run_index (P := Tryz.prog) (Sl.of_own HRJ.out.own (by omega)) slRowsT (r : Int) (by omega) (by omega) w'
                rw [Int.toNat_natCast] at this
                rw [show (j : Int) / 4 = (r : Int) by omega]
                exact this
              have HPB : Hid (bs r < wr.heap.size) := Lib.hid (HRJ.out.row r hri).lt
              clear hjs hri hjr hxa HRJ HVJ HXJ
              go_upto_region 34 with (fail)
              clear hrow hir hip c1 c2
              generalize hpr1 : (nthP SS j).1 = x1 at *
              generalize hpr2 : (nthP SS j).2 = x2 at *
              have HP1 := Lib.hid hpr1; have HP2 := Lib.hid hpr2
              clear hpr1 hpr2
              generalize wr.alloc (Obj.cells #[.int .i64 x1, .int .i64 x2] 179) = W6 at *
              generalize wr.heap.size = pb at *
              have b0 : W6.cell? ⟨pb, 0, none⟩ = some (.int .i64 x1) := HBP.out.cell 0
              have b1 : W6.cell? ⟨pb, 1, none⟩ = some (.int .i64 x2) := HBP.out.cell 1
              have HRB := Lib.hid (HRJ2.out.row r HRI.out)
              have hml : 20 + cd.length ≤ maxLen := by unfold maxLen; omega
              have k1 : ∀ w', (Instr.indexAt 23 (.slice (some ⟨bs r, 0, none⟩) (20 + cd.length) (20 + cd.length)) (.int .i64 (12 + (j : Int) % 4))).run Tryz.prog w' = .ok (.pointer (some ⟨bs r, 12 + k, none⟩)) w' := fun w' => by
                have := run_ixB (P := Tryz.prog) slIntT (bs r) (n := 20 + cd.length) (i := 12 + k) (by omega) hml w'
                rw [show ((12 + k : Nat) : Int) = 12 + (j : Int) % 4 by have := HJR.out; omega] at this
                exact this
              have k2 : ∀ w', (Instr.indexAt 23 (.slice (some ⟨bs r, 0, none⟩) (20 + cd.length) (20 + cd.length)) (.int .i64 (16 + (j : Int) % 4))).run Tryz.prog w' = .ok (.pointer (some ⟨bs r, 16 + k, none⟩)) w' := fun w' => by
                have := run_ixB (P := Tryz.prog) slIntT (bs r) (n := 20 + cd.length) (i := 16 + k) (by omega) hml w'
                rw [show ((16 + k : Nat) : Int) = 16 + (j : Int) % 4 by have := HJR.out; omega] at this
                exact this
              have hlr : (rowK p cd (stpAt l r) (nth ms r) SS j r).length = 20 + cd.length := rowK_length _ _ _ _ _ _ _
              obtain ⟨y1, n1⟩ : ∃ y, W6.cell? ⟨bs r, 12 + k, none⟩ = some y := ⟨_, by rw [HRB.out.cell]; exact List.getElem?_eq_getElem (by simp [hlr]; omega)⟩
              obtain ⟨y2, n2⟩ : ∃ y, W6.cell? ⟨bs r, 16 + k, none⟩ = some y := ⟨_, by rw [HRB.out.cell]; exact List.getElem?_eq_getElem (by simp [hlr]; omega)⟩
              have g1 := HRB.out.free (12 + k)
              have g2 := HRB.out.free (16 + k)
              generalize hbr : bs r = br at *
              have HBRR := Lib.hid hbr
              clear hbr hlr
              have hne : pb ≠ br := by have := HPB.out; omega
              have m1 : (W6.setCell ⟨br, 12 + k, none⟩ (.int .i64 x1)).cell? ⟨pb, 1, none⟩ = some (.int .i64 x2) := by rw [World.cell?_setCell_other _ _ _ _ (by simp)]; exact b1
              have m2 : (W6.setCell ⟨br, 12 + k, none⟩ (.int .i64 x1)).cell? ⟨br, 16 + k, none⟩ = some y2 := by rw [World.cell?_setCell_other _ _ _ _ (by simp)]; exact n2
              go_region
              have hw := HRJ2.out.write (i := 12 + k) (j := 16 + k) (x := x1) (y := x2) HRI.out (L' := fun r => rowK p cd (stpAt l r) (nth ms r) SS (j + 1) r)
                (by simp only [HJR.out]; rw [rowK_this hk4, ← HP1.out, ← HP2.out, HJR.out])
                (fun r' hr' => rowK_other (by have := HJR.out; omega))
              rw [HBRR.out] at hw
              have hgr := grown_one (setCell_grown W6 br (12 + k) (.int .i64 x1)) (setCell_grown _ br (16 + k) (.int .i64 x2))
              have hbb : w2.heap.size ≤ br := by have := HRJ2.out.base r HRI.out; rw [HBRR.out] at this; exact this
              have HRJ3 := Lib.hid (hw.ext (Ext.drew _))
              have HVJ3 := Lib.hid (Sl.ext (Sl.grown HVJ2.out hgr (fun q hq e => HNR.out r HRI.out (by rw [hq, e, HBRR.out]))) (Ext.drew _))
              have HXJ3 := Lib.hid (((Turned.one (c := br) hgr).ext HXJ2.out hbb hbb).trans (Ext.drew _))
              clear hw hgr hbb b0 b1 k1 k2 n1 n2 g1 g2 hne m1 m2 HRJ2 HVJ2 HXJ2 HRB HBP HPB
              revert HRJ3 HVJ3 HXJ3
              generalize World.drew _ = W7
              intro HRJ3 HVJ3 HXJ3
              go_wp2_with fail
              go_roundw
              case rel => exact ⟨j + 1, by omega, by go_num, HRJ3, HVJ3, HXJ3⟩
              case measure => simp [intOf]; omega
            · obtain rfl : j = N := by omega
              obtain ⟨-, -, -, -, -, -, -, a7, -, -⟩ := stp_cells (Sl.ext HS2.out HXJ.out) HOK.out.ne (l.length - 1) (k := L') (by have := HL.out; omega)
              rw [HOK.out.last] at a7
              have hix : ∀ w', (Instr.indexAt 189 sv (.int .i64 (L' : Int))).run Tryz.prog w' = .ok (.pointer (some (elt sv L' 10))) w' := fun w' => by
                have := Sl.run_index (P := Tryz.prog) HS2.out slStep (L' : Int) (by omega) (by have := HL.out; omega) w'
                rw [Int.toNat_natCast] at this
                exact this
              have hw3 : IntKind.i64.wrap ((L' : Int) + 1 - 1) = (L' : Int) := by rw [IntWalk.i64_in _ (by omega)]; omega
              have HTW : Hid (tabL p cd l i = (List.range i).map (fun r => rowK p cd (stpAt l r) (nth ms r) SS j r)) := HTL
              have hml : 20 + cd.length ≤ maxLen := by unfold maxLen; omega
              have HML := Lib.hid hml
              clear hml
              go_wp2_with fail
              go_quiet (fail)
              go_wp2_with fail
              go_ret3
              rw [HRR.out]
              exact ⟨_, rfl, by rw [HTW.out]; exact (HRJ.out.rws (fun r _ => rowK_length _ _ _ _ _ _ _) HML.out).ext (Ext.drewN _ _), (HX2.out.trans HXJ.out).trans (Ext.drewN _ _)⟩
end
end Go.Proofs.YtnmjaddhbecopaaGreatDoor
