/- The program's machine: the run's loop. -/
import Derived.Test.YtgnomhbbbcfehaaGreatDoorM7
import Derived.Deep.RegionLaw
import Derived.Test.YtgnomhbbbcfehaaGreatDoorQt
namespace Go.Att
open Go.RowKit
def flatS (l : List Stp) : List Value := l.flatMap fun t => t.nums.map (Value.int .i64)
theorem flatS_snoc (l : List Stp) (t : Stp) : flatS (l ++ [t]) = flatS l ++ t.nums.map (Value.int .i64) := by simp [flatS]
section
variable {p : Int} {cd : List In4} {k : Nat} {L : List Stp} {s : Ms}
theorem runM_out (h : (cd.length : Int) ≤ s.pc) : runM p cd k L s = .no 7 := by cases k <;> (unfold runM; rw [if_pos h])
theorem runM_blank (h : ¬ (cd.length : Int) ≤ s.pc) (h0 : (nthI cd s.pc.toNat).op = 0) (hl : lk s.mem (fadd p s.fp (nthI cd s.pc.toNat).a) = none) : runM p cd k L s = .no 10 := by
  cases k <;> (unfold runM; rw [if_neg h, if_pos h0, look_no_eq (s := s.blank) hl])
theorem runM_halt (h : ¬ (cd.length : Int) ≤ s.pc) (h0 : (nthI cd s.pc.toNat).op = 0) {v : Int} (hl : lk s.mem (fadd p s.fp (nthI cd s.pc.toNat).a) = some v) : runM p cd k L s = .done (L ++ [s.note [(fadd p s.fp (nthI cd s.pc.toNat).a, v)]]) v s.mem := by
  cases k <;> (unfold runM; rw [if_neg h, if_pos h0, look_yes_eq (s := s.blank) hl]; rfl)
theorem runM_long (h : ¬ (cd.length : Int) ≤ s.pc) (h0 : (nthI cd s.pc.toNat).op ≠ 0) : runM p cd 0 L s = .no 8 := by
  unfold runM; rw [if_neg h, if_neg h0]
theorem runM_no (h : ¬ (cd.length : Int) ≤ s.pc) (h0 : (nthI cd s.pc.toNat).op ≠ 0) {e : Int} (hr : s.blank.one p (nthI cd s.pc.toNat) = .no e) : runM p cd (k + 1) L s = .no e := by
  rw [runM, if_neg h, if_neg h0, hr]
theorem runM_go (h : ¬ (cd.length : Int) ≤ s.pc) (h0 : (nthI cd s.pc.toNat).op ≠ 0) {v : Int} {s' : Ms} (hr : s.blank.one p (nthI cd s.pc.toNat) = .go v s') : runM p cd (k + 1) L s = runM p cd k (L ++ [s.note s'.acc]) s' := by
  rw [runM, if_neg h, if_neg h0, hr]
end
def cellI (w : World) (a : Addr) : Int := match w.cell? a with
  | some (.int _ n) => n
  | _ => 0
theorem cellI_of {w : World} {a : Addr} {k : IntKind} {n : Int} (h : w.cell? a = some (.int k n)) : cellI w a = n := by unfold cellI; rw [h]
theorem flatS_own {W : World} {B E : Nat} {v : Value} {L : List Stp} {s : Ms} {l : List (Int × Int)} (h : W.ownsRow B E 10 v (L.length + 1) (flatS L ++ (s.note l).nums.map (Value.int .i64))) : W.ownsRow B E 10 v (L ++ [s.note l]).length (flatS (L ++ [s.note l])) := by
  rw [flatS_snoc, show (L ++ [s.note l]).length = L.length + 1 by simp]; exact h
theorem own_not_blk {w : World} {B e sz n : Nat} {v : Value} {xs cs : List Value} {b : Nat} {t : TypeId} (h : w.ownsRow B e sz v n xs) (hb : BlkOf w b cs t) (hne : e ≠ t) : v.ownBlock ≠ some b := by
  rcases h.2 with ⟨rfl, _⟩ | ⟨g, cap, cur, rfl, _, hg, _⟩
  · simp [Value.ownBlock]
  · intro e2
    simp [Value.ownBlock] at e2
    subst e2
    unfold BlkOf at hb
    rw [hg] at hb
    simp at hb
    exact hne hb.2
theorem own_not_map {P : Program} {K : TypeId} {w : World} {B e sz c : Nat} {v : Value} {xs : List Value} {mb : Nat} {n : Int} {mem : List (Int × Int)} (h : w.ownsRow B e sz v c xs) (hb : Tmem P K w mb n mem) : v.ownBlock ≠ some mb := by
  rcases h.2 with ⟨rfl, _⟩ | ⟨g, cap, cur, rfl, _, hg, _⟩
  · simp [Value.ownBlock]
  · intro e2
    simp [Value.ownBlock] at e2
    subst e2
    obtain ⟨_, _, _, ⟨es, clock, hb, _⟩, _⟩ := hb
    rw [hg] at hb
    simp at hb
section
variable {P : Program} {ops : Array Oper} {o : Oper} {a : Act} {Q : Exit → Act → World → Prop}
theorem step_appNw {W : World} {K : Act → World → Prop} {E : Prop} (hgd : o.guard = none) (s x : Operand) (t : TypeId)
    (ho : o.op = .call { callee := .builtin .append, args := #[s, x], argTypes := #[t, t] })
    {e sz bytes : Nat} {z : Value} (ht : SlT P t e sz bytes z) (hz : z.cells.size = sz) {B : Nat} (hx0 : B ≤ W.heap.size) {v : Value} {n : Nat} {xs : List Value} (hown : W.ownsRow B e sz v n xs)
    (hs : a.eval s = v) (us : Array Value) (hl : us.toList.length = sz) (hu : ∀ u ∈ us.toList, u.oneCell' = true) (hx : a.eval x = .slice (some ⟨W.heap.size, 0, none⟩) 1 1) (h63 : n + 1 ≤ 4294967296) (hby : bytes ≤ 4096)
    (h : ∀ v' w', w'.ownsRow B e sz v' (n + 1) (xs ++ us.toList) → W.grownBy w' v.ownBlock → Moved W v v' → K (a.put o.dst v') w') : if Region.wanted o (yielded ops a.tmps) = true then Oper.wp P o a (W.alloc (.cells us e)) K Q else E := by
  have hw0 : Region.wanted o (yielded ops a.tmps) = true := by simp [Region.wanted, hgd]
  rw [if_pos hw0]
  obtain ⟨i, hi, hiz, his, hib⟩ := ht.inf
  have hB : (n + 1) * bytes ≤ 4294967296 * 4096 := Nat.mul_le_mul h63 hby
  have hcell : ∀ j u, us.toList[j]? = some u → (W.alloc (.cells us e)).cell? ((⟨W.heap.size, 0, none⟩ : Addr).add j) = some u := by
    intro j y hy
    rw [Addr.add_lit, Nat.zero_add]
    simpa using hy
  have hown' := hown.alloc (.cells us e)
  obtain ⟨v', w', hr, h2, h3, h4⟩ := run_append_own (P := P) (W.alloc (.cells us e)) B t o.type e i z sz bytes ht.und hi hiz his hib hz ht.pos v n xs hown' ⟨W.heap.size, 0, none⟩ 1 1 us.toList (by rw [hl, Nat.one_mul]) hcell hu (by unfold maxLen; omega) (by omega) (by simp; omega)
  subst his; subst hib
  have hw := append_where (P := P) ht.und hi hiz hown' (m := 1) (c := 1) (by rw [hl, Nat.one_mul]) hcell hu (by unfold maxLen; omega) (by omega) hr
  have hg : W.grownBy w' v.ownBlock := ⟨h3.os, h3.tape, h3.output, by have := h3.size; simp at this; omega, fun k hk hne => by
      rw [h3.block k (by simp; omega) hne]; exact heap_alloc_old W _ hk⟩
  unfold Oper.wp
  simp [execOp, ho, resolve, invoke, builtin, hs, hx, hr, Result.andThen]
  refine h v' w' h2 hg ?_
  rcases hw with hw | hw
  · exact .inl hw
  · refine .inr fun k hk => ?_
    rw [hw] at hk
    have := Option.some.inj hk
    simp at this; omega
end
def stp0 (s : Ms) : List Value := [.int .i64 s.pc, .int .i64 s.fp, .int .i64 s.ap, .int .i64 s.rv, .int .i64 0, .int .i64 0, .int .i64 0, .int .i64 0, .int .i64 0, .int .i64 0]
theorem stp_full (s : Ms) (l : List (Int × Int)) : (((((((stp0 s).set 4 (.int .i64 (accA l 0))).set 5 (.int .i64 (accA l 1))).set 6 (.int .i64 (accA l 2))).set 7 (.int .i64 (accI l 0))).set 8 (.int .i64 (accI l 1))).set 9 (.int .i64 (accI l 2))) = (s.note l).nums.map (Value.int .i64) := by
  simp [stp0, Stp.nums, Ms.note, accA, accI]
theorem mcells_blank (f : Value) (sz : Int) (lv : Value) (mb : Nat) (s : Ms) (sv : Value) (dn : Int) : (((((((mcells f sz lv mb s sv dn).set 8 (.int .i64 0)).set 9 (.int .i64 0)).set 10 (.int .i64 0)).set 11 (.int .i64 0)).set 12 (.int .i64 0)).set 13 (.int .i64 0)).set 14 (.int .i64 0) = mcells f sz lv mb s.blank sv dn := by
  simp [mcells, Ms.blank, accA, accI]
end Go.Att
namespace Go.Proofs.YtgnomhbbbcfehaaGreatDoor
open Go.RowKit Go.Att Go.Maps
attribute [local go_sem ↓] Go.wp_at_zero Go.wp_at_succ
theorem slStep : SlT Tryz.prog 165 222 10 80 (.agg #[.int .i64 0, .int .i64 0, .int .i64 0, .int .i64 0, .int .i64 0, .int .i64 0, .int .i64 0, .int .i64 0, .int .i64 0, .int .i64 0]) := .mk' Tryz.underlying165 (by kernel_rfl) (by decide)
section
variable {w0 w w' : World} {b mb : Nat} {f : Value} {p g : Int} {fs : List Int} {sz : Int} {lv : Value} {cd : List In4} {s s' : Ms} {n : Int} {sv : Value} {dn : Int}
def RunGot (w0 : World) (b mb : Nat) (f : Value) (p g : Int) (fs : List Int) (sz : Int) (lv : Value) (cd : List In4) (r : Rw) (e : Ending) (w' : World) : Prop :=
  match r with
  | .done l out mem => e = .returned (.int .i64 out) ∧ ∃ s' n sv dn, MAt w0 w' b mb f p g fs sz lv cd s' n sv dn ∧ s'.mem = mem ∧ (l.length : Int) = dn + 1 ∧ w'.ownsRow w0.heap.size 222 10 sv l.length (flatS l)
  | .no k => Stops 192 w0 k e w'
def RunAt (w0 w : World) (b mb : Nat) (f : Value) (p g : Int) (fs : List Int) (sz : Int) (lv : Value) (cd : List In4) (R : Rw) (lim : Int) : Prop :=
  ∃ (k : Nat) (L : List Stp) (s : Ms) (n : Int) (sv : Value), MAt w0 w b mb f p g fs sz lv cd s n sv L.length ∧ n ≤ 1 + 2 * L.length ∧ (L.length : Int) + k = lim ∧ runM p cd k L s = R ∧ w.ownsRow w0.heap.size 222 10 sv L.length (flatS L)
theorem run_app {W w8 : World} {t : Ms} {v8 : Value} {N : Nat} {xs ys : List Value} (h : MAt w0 W b mb f p g fs sz lv cd t n sv dn) (ho : W.ownsRow w0.heap.size 222 10 sv N xs) (hg : W.drew.grownBy w8 sv.ownBlock) (ho8 : w8.ownsRow w0.heap.size 222 10 v8 (N + 1) ys) :
    MAt w0 (w8.setCell ⟨b, 15, none⟩ v8) b mb f p g fs sz lv cd t n v8 dn ∧ (w8.setCell ⟨b, 15, none⟩ v8).ownsRow w0.heap.size 222 10 v8 (N + 1) ys ∧ ∀ q cs ty, BlkOf W q cs ty → q ≠ b → some q ≠ sv.ownBlock → BlkOf (w8.setCell ⟨b, 15, none⟩ v8) q cs ty := by
  have hd := Ext.drew W
  have hnb := own_not_blk ho h.blk (by decide)
  have hnm := own_not_map ho h.told
  have m8 : MAt w0 w8 b mb f p g fs sz lv cd t n sv dn := (h.to hd).kept hg (fun e => hnb e.symm) (fun e => hnm e.symm) (Ext.own_grown (h.ext.trans hd) (own_ext ho hd) hg)
  have hnb8 := own_not_blk ho8 m8.blk (by decide)
  have hnm8 := own_not_map ho8 m8.told
  refine ⟨m8.wrote (setCell_grown _ _ _ _) (m8.blk.set 15 v8) rfl m8.dnb m8.ok, (Turned.one (c := mb) (setCell_grown _ _ _ _)).own ho8 hnb8 hnm8, fun q cs ty hq h1 h2 => ?_⟩
  exact ((hq.ext hd).grown hg h2).grown (setCell_grown _ _ _ _) (fun e => h1 (Option.some.inj e))
theorem runat_next {W : World} {R : Rw} {lim : Int} {k : Nat} {L : List Stp} {t : Ms} {x : In4} {v : Int} {v9 : Value} (hm : MAt w0 W b mb f p g fs sz lv cd t (n + 2) v9 ((L.length : Int) + 1)) (hn : n ≤ 1 + 2 * (L.length : Int)) (hk : (L.length : Int) + ((k + 1 : Nat) : Int) = lim) (hR : runM p cd (k + 1) L s = R) (hpc : ¬ (cd.length : Int) ≤ s.pc) (hx : x = nthI cd s.pc.toNat) (hop : x.op ≠ 0) (hr : s.blank.one p x = .go v t)
    (ho : W.ownsRow w0.heap.size 222 10 v9 (L.length + 1) (flatS L ++ (s.note t.acc).nums.map (Value.int .i64))) : RunAt w0 W b mb f p g fs sz lv cd R lim := by
  have hl : (L ++ [s.note t.acc]).length = L.length + 1 := by simp
  refine ⟨k, L ++ [s.note t.acc], t, n + 2, v9, ?_, ?_, ?_, ?_, ?_⟩
  · rw [hl]; exact hm
  · rw [hl]; omega
  · rw [hl]; omega
  · subst hx
    rw [← hR, runM_go hpc hop hr]
  · rw [hl, flatS_snoc]; exact ho
set_option maxRecDepth 100000 in
set_option maxHeartbeats 8000000 in
theorem mrun_any (bf : Nat) (R : Rw) (lim : Int) (hlim : lim ≤ 16384) (h : RunAt w0 w b mb (.pointer (some ⟨bf, 0, none⟩)) p g fs sz lv cd R lim) : Calls Tryz.prog 118 #[.pointer (some ⟨b, 0, none⟩), .int .i64 lim] w (RunGot w0 b mb (.pointer (some ⟨bf, 0, none⟩)) p g fs sz lv cd R) := by
  have H := Lib.hid h
  clear h
  go_enter Tryz.func118, Tryz.ntmps118
  go_wp2_with fail
  go_loopw [4] (fun _ wr => RunAt w0 wr b mb (.pointer (some ⟨bf, 0, none⟩)) p g fs sz lv cd R lim) (fun _ wr => (20000 - cellI wr ⟨b, 16, none⟩).toNat)
  case atStart => exact H.out
  case round =>
    clear H
    obtain ⟨k, L, s, n, sv, h, hn, hk, hR, hown⟩ := hrel
    have HC16 := Lib.hid (cellI_of (w := wr) (a := ⟨b, 16, none⟩) (h.blk.cell 16))
    have c4 : wr.cell? ⟨b, 4, none⟩ = some (.int .i64 s.pc) := h.blk.cell 4
    have c2 : wr.cell? ⟨b, 2, none⟩ = some lv := h.blk.cell 2
    have hll : ∀ w', (Builtin.len_ #[112] 3 #[lv]).run Tryz.prog w' = .ok (.int .i64 cd.length) w' := fun w' => h.code.run_len (P := Tryz.prog) slIns 3 w'
    obtain ⟨ao, cap, rfl⟩ := h.code.shape
    have hcl := h.code.len
    have hpc0 := h.ok.pc
    have H := Lib.hid h; have HN := Lib.hid hn; have HK := Lib.hid hk; have HR := Lib.hid hR; have HO := Lib.hid hown
    clear h hn hk hR hown
    by_cases hpc : (cd.length : Int) ≤ s.pc
    · have hlt : decide (s.pc < (cd.length : Int)) = false := by simpa using hpc
      have HPC := Lib.hid hpc; clear hpc
      go_wp2_with fail
      refine wp_region_quiet_tail 11 (by kernel_rfl) (by kernel_rfl) ?_
      simp only [List.take_succ_cons, List.take_zero, List.drop_succ_cons, List.drop_zero]
      repeat (go_big_quiet_step (fail))
      refine wpQuiet_nil ?_
      rintro _ ⟨nq, rfl⟩
      go_wp2_with (go_at_call 146; refine (must_no (w0 := w0) (H.out.ext.trans (Ext.drewN wr _))).mono ?_; rintro e w6 ⟨rfl, hx⟩)
      exact ⟨rfl, by rw [← HR.out, runM_out HPC.out]; exact ⟨rfl, hx⟩⟩
    · have hlt : decide (s.pc < (cd.length : Int)) = true := by simpa using hpc
      have hpl : s.pc < cd.length := by omega
      have HPC := Lib.hid hpc; clear hpc
      go_wp2_with fail
      refine wp_region_quiet_tail 11 (by kernel_rfl) (by kernel_rfl) ?_
      simp only [List.take_succ_cons, List.take_zero, List.drop_succ_cons, List.drop_zero]
      repeat (go_big_quiet_step (fail))
      refine wpQuiet_nil ?_
      rintro _ ⟨nq, rfl⟩
      go_wp2_with (go_at_call 146; refine (must_yes _).mono ?_; rintro e w6 ⟨rfl, rfl⟩)
      replace H := Lib.hid (H.out.to (Ext.drewN wr nq)); replace HO := Lib.hid (own_ext HO.out (Ext.drewN wr nq))
      clear c4 c2 hlt
      generalize wr.drewN nq = W1 at *
      have c4 : W1.cell? ⟨b, 4, none⟩ = some (.int .i64 s.pc) := H.out.blk.cell 4
      have c2 : W1.cell? ⟨b, 2, none⟩ = some (.slice ao cd.length cap) := H.out.blk.cell 2
      have hj : s.pc.toNat < cd.length := by omega
      have hix : ∀ w', (Instr.indexAt 112 (.slice ao cd.length cap) (.int .i64 s.pc)).run Tryz.prog w' = .ok (.pointer (some (elt (.slice ao cd.length cap) s.pc.toNat 4))) w' := fun w' => by
        have := H.out.code.run_index (P := Tryz.prog) slIns s.pc.toNat hj w'
        rw [Int.toNat_of_nonneg hpc0.1] at this; exact this
      have hcode := H.out.code.ext H.out.ext
      have e0 := hcode.c0 s.pc.toNat hj
      have e1 := hcode.c1 s.pc.toNat hj
      have e2 := hcode.c2 s.pc.toNat hj
      have e3 := hcode.c3 s.pc.toNat hj
      have HJ := Lib.hid hj
      clear hcode hll hj
      obtain ⟨x, hx⟩ : ∃ x, x = nthI cd s.pc.toNat := ⟨_, rfl⟩
      rw [← hx] at e0 e1 e2 e3
      have HXI := Lib.hid hx; clear hx
      generalize elt (.slice ao cd.length cap) s.pc.toNat 4 = ea at *
      have n1 := World.new_ne W1 _ e0
      have n2 := World.new_ne W1 _ c4
      go_region_held3 (fun w' => w'.cell? ⟨b, 4, none⟩ = some (.int .i64 s.pc) ∧ w'.cell? ⟨b, 2, none⟩ = some (.slice ao cd.length cap) ∧ w'.cell? ea = some (.int .i64 x.op) ∧ w'.cell? ⟨ea.block, ea.off + 1, none⟩ = some (.int .i64 x.a) ∧ w'.cell? ⟨ea.block, ea.off + 2, none⟩ = some (.int .i64 x.b) ∧ w'.cell? ⟨ea.block, ea.off + 3, none⟩ = some (.int .i64 x.c)) (go_keep) (fail)
      rename_i hHeld; clear hHeld
      have hxA : Ext W1 (W1.alloc (.cells #[.int .i64 x.op, .int .i64 x.a, .int .i64 x.b, .int .i64 x.c] 111)).drew := (Ext.alloc _ _).trans (Ext.drew _)
      have hbA : BlkOf (W1.alloc (.cells #[.int .i64 x.op, .int .i64 x.a, .int .i64 x.b, .int .i64 x.c] 111)).drew W1.heap.size (insCs x) 111 := BlkOf.new W1 (insCs x) 111
      have hz1 : W1.heap.size ≠ b := by have := H.out.blk.lt; omega
      have hz2 : W1.heap.size ≠ mb := by have := H.out.told.lt; omega
      have hz3 : w0.heap.size ≤ W1.heap.size := H.out.ext.size
      replace H := Lib.hid (H.out.to hxA); replace HO := Lib.hid (own_ext HO.out hxA)
      have HB := Lib.hid hbA
      clear c4 c2 e0 e1 e2 e3 n1 n2 hix hxA hbA HJ
      generalize (W1.alloc (.cells #[.int .i64 x.op, .int .i64 x.a, .int .i64 x.b, .int .i64 x.c] 111)).drew = W2 at *
      generalize W1.heap.size = zb at *
      have HZ1 := Lib.hid hz1; have HZ2 := Lib.hid hz2; have HZ3 := Lib.hid hz3
      clear hz1 hz2 hz3
      have c16 : W2.cell? ⟨b, 16, none⟩ = some (.int .i64 L.length) := H.out.blk.cell 16
      have b0 : W2.cell? ⟨zb, 0, none⟩ = some (.int .i64 x.op) := HB.out.cell 0
      have hkl := HK.out
      by_cases hop : x.op = 0
      ·
          have hob : (x.op != 0) = false := by simpa using hop
          have HOP := Lib.hid hop; clear hop hkl c16
          have c4 : W2.cell? ⟨b, 4, none⟩ = some (.int .i64 s.pc) := H.out.blk.cell 4
          have c5 : W2.cell? ⟨b, 5, none⟩ = some (.int .i64 s.fp) := H.out.blk.cell 5
          have c6 : W2.cell? ⟨b, 6, none⟩ = some (.int .i64 s.ap) := H.out.blk.cell 6
          have c7 : W2.cell? ⟨b, 7, none⟩ = some (.int .i64 s.rv) := H.out.blk.cell 7
          go_wp2_with fail
          go_region_held3 (fun w' => w'.cell? ⟨b, 4, none⟩ = some (.int .i64 s.pc) ∧ w'.cell? ⟨b, 5, none⟩ = some (.int .i64 s.fp) ∧ w'.cell? ⟨b, 6, none⟩ = some (.int .i64 s.ap) ∧ w'.cell? ⟨b, 7, none⟩ = some (.int .i64 s.rv)) (go_keep) (fail)
          rename_i hHeld; clear hHeld
          have hxB : Ext W2 (W2.alloc (.cells #[.int .i64 s.pc, .int .i64 s.fp, .int .i64 s.ap, .int .i64 s.rv, .int .i64 0, .int .i64 0, .int .i64 0, .int .i64 0, .int .i64 0, .int .i64 0] 222)).drew := (Ext.alloc _ _).trans (Ext.drew _)
          have hbB : BlkOf (W2.alloc (.cells #[.int .i64 s.pc, .int .i64 s.fp, .int .i64 s.ap, .int .i64 s.rv, .int .i64 0, .int .i64 0, .int .i64 0, .int .i64 0, .int .i64 0, .int .i64 0] 222)).drew W2.heap.size (stp0 s) 222 := BlkOf.new W2 (stp0 s) 222
          have hy1 : W2.heap.size ≠ b := by have := H.out.blk.lt; omega
          have hy2 : W2.heap.size ≠ mb := by have := H.out.told.lt; omega
          have hy3 : zb ≠ W2.heap.size := by have := HB.out.lt; omega
          have hy4 : w0.heap.size ≤ W2.heap.size := H.out.ext.size
          have hy5 : sv.ownBlock ≠ some W2.heap.size := fun e => by have := (HO.out.lt _ e).2; omega
          replace H := Lib.hid (H.out.to hxB); replace HO := Lib.hid (own_ext HO.out hxB); replace HB := Lib.hid (HB.out.ext hxB)
          have HS := Lib.hid hbB
          clear c4 c5 c6 c7 b0 hxB hbB
          generalize (W2.alloc (.cells #[.int .i64 s.pc, .int .i64 s.fp, .int .i64 s.ap, .int .i64 s.rv, .int .i64 0, .int .i64 0, .int .i64 0, .int .i64 0, .int .i64 0, .int .i64 0] 222)).drew = W3 at *
          generalize W2.heap.size = tb at *
          have HY1 := Lib.hid hy1; have HY2 := Lib.hid hy2; have HY3 := Lib.hid hy3; have HY4 := Lib.hid hy4; have HY5 := Lib.hid hy5
          clear hy1 hy2 hy3 hy4 hy5
          have b0 : W3.cell? ⟨zb, 0, none⟩ = some (.int .i64 x.op) := HB.out.cell 0
          have d8 : W3.cell? ⟨b, 8, none⟩ = some (.int .i64 (accA s.acc 0)) := H.out.blk.cell 8
          have f8 := H.out.blk.free 8
          have d9 : W3.cell? ⟨b, 9, none⟩ = some (.int .i64 (accA s.acc 1)) := H.out.blk.cell 9
          have f9 := H.out.blk.free 9
          have d10 : W3.cell? ⟨b, 10, none⟩ = some (.int .i64 (accA s.acc 2)) := H.out.blk.cell 10
          have f10 := H.out.blk.free 10
          have d11 : W3.cell? ⟨b, 11, none⟩ = some (.int .i64 (accI s.acc 0)) := H.out.blk.cell 11
          have f11 := H.out.blk.free 11
          have d12 : W3.cell? ⟨b, 12, none⟩ = some (.int .i64 (accI s.acc 1)) := H.out.blk.cell 12
          have f12 := H.out.blk.free 12
          have d13 : W3.cell? ⟨b, 13, none⟩ = some (.int .i64 (accI s.acc 2)) := H.out.blk.cell 13
          have f13 := H.out.blk.free 13
          have d14 : W3.cell? ⟨b, 14, none⟩ = some (.int .i64 (s.acc.length)) := H.out.blk.cell 14
          have f14 := H.out.blk.free 14
          go_upto_region 7 with (fail)
          have hG : W3.grownBy (((((((W3.setCell ⟨b, 8, none⟩ (.int .i64 0)).setCell ⟨b, 9, none⟩ (.int .i64 0)).setCell ⟨b, 10, none⟩ (.int .i64 0)).setCell ⟨b, 11, none⟩ (.int .i64 0)).setCell ⟨b, 12, none⟩ (.int .i64 0)).setCell ⟨b, 13, none⟩ (.int .i64 0)).setCell ⟨b, 14, none⟩ (.int .i64 0)) (some b) := grown_one (grown_one (grown_one (grown_one (grown_one (grown_one (setCell_grown W3 b 8 (.int .i64 0)) (setCell_grown _ b 9 (.int .i64 0))) (setCell_grown _ b 10 (.int .i64 0))) (setCell_grown _ b 11 (.int .i64 0))) (setCell_grown _ b 12 (.int .i64 0))) (setCell_grown _ b 13 (.int .i64 0))) (setCell_grown _ b 14 (.int .i64 0))
          have hBk := ((((((((((((((H.out.blk).set 8 (.int .i64 0))).set 9 (.int .i64 0))).set 10 (.int .i64 0))).set 11 (.int .i64 0))).set 12 (.int .i64 0))).set 13 (.int .i64 0))).set 14 (.int .i64 0))
          rw [mcells_blank] at hBk
          have hM4 := H.out.wrote (s' := s.blank) (sv' := sv) hG hBk rfl H.out.dnb (blank_ok H.out.ok)
          have hT4 : Turned b mb W3 (((((((W3.setCell ⟨b, 8, none⟩ (.int .i64 0)).setCell ⟨b, 9, none⟩ (.int .i64 0)).setCell ⟨b, 10, none⟩ (.int .i64 0)).setCell ⟨b, 11, none⟩ (.int .i64 0)).setCell ⟨b, 12, none⟩ (.int .i64 0)).setCell ⟨b, 13, none⟩ (.int .i64 0)).setCell ⟨b, 14, none⟩ (.int .i64 0)) := Turned.one hG
          have hO4 := hT4.own HO.out (own_not_blk HO.out H.out.blk (by decide)) (own_not_map HO.out H.out.told)
          replace HB := Lib.hid (hT4.blk HB.out HZ1.out HZ2.out); replace HS := Lib.hid (hT4.blk HS.out HY1.out HY2.out); replace HO := Lib.hid hO4; replace H := Lib.hid hM4
          clear hG hBk hM4 hT4 hO4 b0 d8 d9 d10 d11 d12 d13 d14 f8 f9 f10 f11 f12 f13 f14
          generalize (((((((W3.setCell ⟨b, 8, none⟩ (.int .i64 0)).setCell ⟨b, 9, none⟩ (.int .i64 0)).setCell ⟨b, 10, none⟩ (.int .i64 0)).setCell ⟨b, 11, none⟩ (.int .i64 0)).setCell ⟨b, 12, none⟩ (.int .i64 0)).setCell ⟨b, 13, none⟩ (.int .i64 0)).setCell ⟨b, 14, none⟩ (.int .i64 0)) = W4 at *
          have b0 : W4.cell? ⟨zb, 0, none⟩ = some (.int .i64 x.op) := HB.out.cell 0
          have b1 : W4.cell? ⟨zb, 1, none⟩ = some (.int .i64 x.a) := HB.out.cell 1
          have b2 : W4.cell? ⟨zb, 2, none⟩ = some (.int .i64 x.b) := HB.out.cell 2
          have b3 : W4.cell? ⟨zb, 3, none⟩ = some (.int .i64 x.c) := HB.out.cell 3
          have hob0 : (x.op == 0) = true := by simpa using HOP.out
          go_wp2_with (first | (go_at_call 148; ((with_reducible refine (mown_at (q := s.fp) H.out x.a rfl).mono ?_); rintro e m1w ⟨rfl, m1, rfl⟩)))
          refine (mlook_any (H.out.to (Ext.drewN W4 m1)) (fadd_bd H.out.fld.two s.fp x.a).1 (by have := (fadd_bd H.out.fld.two s.fp x.a).2; have := H.out.fld.hi; omega) (by simp [Ms.blank])).mono ?_
          intro e w5 h5
          rcases mgot_look h5 with ⟨hr, rfl, hx⟩ | ⟨u, hu, rfl, hm, ht0⟩
          · go_wp2_with fail
            exact ⟨rfl, by rw [← HR.out, runM_blank (by have := HPC.out; omega) (by rw [← HXI.out]; exact HOP.out) (by rw [← HXI.out]; exact hr)]; exact ⟨rfl, hx⟩⟩
          have ht := (Turned.of_ext (Ext.drewN W4 m1)).trans ht0
          have HU := Lib.hid hu
          have hacc : (s.blank.noted (fadd p s.fp x.a) u).acc.length ≤ 3 := by simp [Ms.blank, Ms.noted]
          have HTE : Hid ((s.blank.noted (fadd p s.fp x.a) u).acc = [(fadd p s.fp x.a, u)]) := Lib.hid rfl
          have HTM : Hid ((s.blank.noted (fadd p s.fp x.a) u).mem = s.mem) := Lib.hid rfl
          replace HB := Lib.hid (ht.blk HB.out HZ1.out HZ2.out); replace HS := Lib.hid (ht.blk HS.out HY1.out HY2.out); replace HO := Lib.hid (ht.own HO.out (own_not_blk HO.out H.out.blk (by decide)) (own_not_map HO.out H.out.told))
          replace H := Lib.hid hm
          clear hm ht ht0 h5 hu b0 b1 b2 b3
          generalize s.blank.noted (fadd p s.fp x.a) u = t at *
          have d14 : w5.cell? ⟨b, 14, none⟩ = some (.int .i64 t.acc.length) := H.out.blk.cell 14
          go_wp2_with fail
          go_loopw [89] (fun x89 wr => ∃ i : Nat, x89 = .int .i64 i ∧ i ≤ t.acc.length ∧ MAt w0 wr b mb (.pointer (some ⟨bf, 0, none⟩)) p g fs sz (.slice ao cd.length cap) cd t n sv L.length ∧ BlkOf wr zb (insCs x) 111 ∧ BlkOf wr tb (stp0 s) 222 ∧ wr.ownsRow w0.heap.size 222 10 sv L.length (flatS L)) (fun x89 _ => t.acc.length - (intOf x89).toNat)
          case atStart => exact ⟨0, rfl, Nat.zero_le _, H.out, HB.out, HS.out, HO.out⟩
          case round =>
            clear H HB HS HO d14
            obtain ⟨i, rfl, hi, h, hb, hs, ho⟩ := hrel
            by_cases hil : i < t.acc.length
            · have hi3 : i = 0 ∨ i = 1 ∨ i = 2 := by omega
              have hmem : (accA t.acc i, accI t.acc i) ∈ t.acc := by
                unfold accA accI
                have e : t.acc.getD i (0, 0) = t.acc[i] := by simp [List.getD, hil]
                rw [e]; exact List.getElem_mem hil
              have hbd := (h.ok.mem _ (lk_mem (h.ok.acc _ hmem))).1
              have hp31 := h.fld.hi
              have hlk : (Instr.lookup 163 (.map (some mb)) (.int .i64 (accA t.acc i)) false).run Tryz.prog wr.drew = .ok (.int .i64 (accI t.acc i)) wr.drew := (h.told.kept ((Ext.drew wr).grownBy none) (by simp)).look Tryz.underlying3 Tryz.underlying163 zeroI hbd.1 (by have := hbd.2; dsimp only at this; omega) (h.ok.acc _ hmem)
              have c3 : wr.cell? ⟨b, 3, none⟩ = some (.map (some mb)) := h.blk.cell 3
              have H := Lib.hid h; have HB := Lib.hid hb; have HS := Lib.hid hs; have HO := Lib.hid ho
              clear h hb hs ho hmem hbd hp31
              rcases hi3 with rfl | rfl | rfl
              · have c8 : wr.cell? ⟨b, 8, none⟩ = some (.int .i64 (accA t.acc 0)) := H.out.blk.cell 8
                have c11 : wr.cell? ⟨b, 11, none⟩ = some (.int .i64 (accI t.acc 0)) := H.out.blk.cell 11
                have f11 := H.out.blk.free 11
                go_wp2_with fail
                go_region_held3 (fun w' => w'.cell? ⟨b, 3, none⟩ = some (.map (some mb)) ∧ w'.cell? ⟨b, 8, none⟩ = some (.int .i64 (accA t.acc 0))) (first | exact ⟨c3, c8⟩ | exact ⟨(World.cell?_setCell_other _ _ _ _ (by simp)).trans c3, (World.cell?_setCell_other _ _ _ _ (by simp)).trans c8⟩) (fail)
                rename_i hHeld; clear hHeld
                have hG : wr.grownBy (wr.setCell ⟨b, 11, none⟩ (.int .i64 (accI t.acc 0))).drew (some b) := grown_ext (setCell_grown wr b 11 (.int .i64 (accI t.acc 0))) (Ext.drew _)
                have hB6 : BlkOf (wr.setCell ⟨b, 11, none⟩ (.int .i64 (accI t.acc 0))).drew b (mcells (.pointer (some ⟨bf, 0, none⟩)) sz (.slice ao cd.length cap) mb t sv L.length) 167 := H.out.blk.set 11 (.int .i64 (accI t.acc 0))
                have N1 := H.out.wrote hG hB6 rfl H.out.dnb H.out.ok
                have hT6 : Turned b mb wr (wr.setCell ⟨b, 11, none⟩ (.int .i64 (accI t.acc 0))).drew := Turned.one hG
                have N2 := hT6.blk HB.out HZ1.out HZ2.out
                have N3 := hT6.blk HS.out HY1.out HY2.out
                have N4 := hT6.own HO.out (own_not_blk HO.out H.out.blk (by decide)) (own_not_map HO.out H.out.told)
                clear H HB HS HO hG hB6 hT6 c8 c11 f11 c3 hlk
                generalize (wr.setCell ⟨b, 11, none⟩ (.int .i64 (accI t.acc 0))).drew = W6 at *
                have M1 := Lib.hid N1; have M2 := Lib.hid N2; have M3 := Lib.hid N3; have M4 := Lib.hid N4
                clear N1 N2 N3 N4
                go_wp2_with fail
                go_roundw
                case rel => exact ⟨1, by go_num, by omega, M1.out, M2.out, M3.out, M4.out⟩
                case measure => simp [intOf]; omega
              · have c8 : wr.cell? ⟨b, 9, none⟩ = some (.int .i64 (accA t.acc 1)) := H.out.blk.cell 9
                have c11 : wr.cell? ⟨b, 12, none⟩ = some (.int .i64 (accI t.acc 1)) := H.out.blk.cell 12
                have f11 := H.out.blk.free 12
                go_wp2_with fail
                go_region_held3 (fun w' => w'.cell? ⟨b, 3, none⟩ = some (.map (some mb)) ∧ w'.cell? ⟨b, 9, none⟩ = some (.int .i64 (accA t.acc 1))) (first | exact ⟨c3, c8⟩ | exact ⟨(World.cell?_setCell_other _ _ _ _ (by simp)).trans c3, (World.cell?_setCell_other _ _ _ _ (by simp)).trans c8⟩) (fail)
                rename_i hHeld; clear hHeld
                have hG : wr.grownBy (wr.setCell ⟨b, 12, none⟩ (.int .i64 (accI t.acc 1))).drew (some b) := grown_ext (setCell_grown wr b 12 (.int .i64 (accI t.acc 1))) (Ext.drew _)
                have hB6 : BlkOf (wr.setCell ⟨b, 12, none⟩ (.int .i64 (accI t.acc 1))).drew b (mcells (.pointer (some ⟨bf, 0, none⟩)) sz (.slice ao cd.length cap) mb t sv L.length) 167 := H.out.blk.set 12 (.int .i64 (accI t.acc 1))
                have N1 := H.out.wrote hG hB6 rfl H.out.dnb H.out.ok
                have hT6 : Turned b mb wr (wr.setCell ⟨b, 12, none⟩ (.int .i64 (accI t.acc 1))).drew := Turned.one hG
                have N2 := hT6.blk HB.out HZ1.out HZ2.out
                have N3 := hT6.blk HS.out HY1.out HY2.out
                have N4 := hT6.own HO.out (own_not_blk HO.out H.out.blk (by decide)) (own_not_map HO.out H.out.told)
                clear H HB HS HO hG hB6 hT6 c8 c11 f11 c3 hlk
                generalize (wr.setCell ⟨b, 12, none⟩ (.int .i64 (accI t.acc 1))).drew = W6 at *
                have M1 := Lib.hid N1; have M2 := Lib.hid N2; have M3 := Lib.hid N3; have M4 := Lib.hid N4
                clear N1 N2 N3 N4
                go_wp2_with fail
                go_roundw
                case rel => exact ⟨2, by go_num, by omega, M1.out, M2.out, M3.out, M4.out⟩
                case measure => simp [intOf]; omega
              · have c8 : wr.cell? ⟨b, 10, none⟩ = some (.int .i64 (accA t.acc 2)) := H.out.blk.cell 10
                have c11 : wr.cell? ⟨b, 13, none⟩ = some (.int .i64 (accI t.acc 2)) := H.out.blk.cell 13
                have f11 := H.out.blk.free 13
                go_wp2_with fail
                go_region_held3 (fun w' => w'.cell? ⟨b, 3, none⟩ = some (.map (some mb)) ∧ w'.cell? ⟨b, 10, none⟩ = some (.int .i64 (accA t.acc 2))) (first | exact ⟨c3, c8⟩ | exact ⟨(World.cell?_setCell_other _ _ _ _ (by simp)).trans c3, (World.cell?_setCell_other _ _ _ _ (by simp)).trans c8⟩) (fail)
                rename_i hHeld; clear hHeld
                have hG : wr.grownBy (wr.setCell ⟨b, 13, none⟩ (.int .i64 (accI t.acc 2))).drew (some b) := grown_ext (setCell_grown wr b 13 (.int .i64 (accI t.acc 2))) (Ext.drew _)
                have hB6 : BlkOf (wr.setCell ⟨b, 13, none⟩ (.int .i64 (accI t.acc 2))).drew b (mcells (.pointer (some ⟨bf, 0, none⟩)) sz (.slice ao cd.length cap) mb t sv L.length) 167 := H.out.blk.set 13 (.int .i64 (accI t.acc 2))
                have N1 := H.out.wrote hG hB6 rfl H.out.dnb H.out.ok
                have hT6 : Turned b mb wr (wr.setCell ⟨b, 13, none⟩ (.int .i64 (accI t.acc 2))).drew := Turned.one hG
                have N2 := hT6.blk HB.out HZ1.out HZ2.out
                have N3 := hT6.blk HS.out HY1.out HY2.out
                have N4 := hT6.own HO.out (own_not_blk HO.out H.out.blk (by decide)) (own_not_map HO.out H.out.told)
                clear H HB HS HO hG hB6 hT6 c8 c11 f11 c3 hlk
                generalize (wr.setCell ⟨b, 13, none⟩ (.int .i64 (accI t.acc 2))).drew = W6 at *
                have M1 := Lib.hid N1; have M2 := Lib.hid N2; have M3 := Lib.hid N3; have M4 := Lib.hid N4
                clear N1 N2 N3 N4
                go_wp2_with fail
                go_roundw
                case rel => exact ⟨3, by go_num, by omega, M1.out, M2.out, M3.out, M4.out⟩
                case measure => simp [intOf]; omega
            · obtain rfl : i = t.acc.length := by omega
              have d8 : wr.cell? ⟨b, 8, none⟩ = some (.int .i64 (accA t.acc 0)) := h.blk.cell 8
              have d9 : wr.cell? ⟨b, 9, none⟩ = some (.int .i64 (accA t.acc 1)) := h.blk.cell 9
              have d10 : wr.cell? ⟨b, 10, none⟩ = some (.int .i64 (accA t.acc 2)) := h.blk.cell 10
              have d11 : wr.cell? ⟨b, 11, none⟩ = some (.int .i64 (accI t.acc 0)) := h.blk.cell 11
              have d12 : wr.cell? ⟨b, 12, none⟩ = some (.int .i64 (accI t.acc 1)) := h.blk.cell 12
              have d13 : wr.cell? ⟨b, 13, none⟩ = some (.int .i64 (accI t.acc 2)) := h.blk.cell 13
              have e4 : wr.cell? ⟨tb, 4, none⟩ = some (.int .i64 0) := hs.cell 4
              have g4 := hs.free 4
              have e5 : wr.cell? ⟨tb, 5, none⟩ = some (.int .i64 0) := hs.cell 5
              have g5 := hs.free 5
              have e6 : wr.cell? ⟨tb, 6, none⟩ = some (.int .i64 0) := hs.cell 6
              have g6 := hs.free 6
              have e7 : wr.cell? ⟨tb, 7, none⟩ = some (.int .i64 0) := hs.cell 7
              have g7 := hs.free 7
              have e8 : wr.cell? ⟨tb, 8, none⟩ = some (.int .i64 0) := hs.cell 8
              have g8 := hs.free 8
              have e9 : wr.cell? ⟨tb, 9, none⟩ = some (.int .i64 0) := hs.cell 9
              have g9 := hs.free 9
              have hy : tb ≠ b := HY1.out
              have H := Lib.hid h; have HB := Lib.hid hb; have HS := Lib.hid hs; have HO := Lib.hid ho
              clear h hb hs ho
              go_wp2_with fail
              go_region_held3 (fun w' => w'.cell? ⟨b, 8, none⟩ = some (.int .i64 (accA t.acc 0)) ∧ w'.cell? ⟨b, 9, none⟩ = some (.int .i64 (accA t.acc 1)) ∧ w'.cell? ⟨b, 10, none⟩ = some (.int .i64 (accA t.acc 2)) ∧ w'.cell? ⟨b, 11, none⟩ = some (.int .i64 (accI t.acc 0)) ∧ w'.cell? ⟨b, 12, none⟩ = some (.int .i64 (accI t.acc 1)) ∧ w'.cell? ⟨b, 13, none⟩ = some (.int .i64 (accI t.acc 2))) (go_keep) (fail)
              rename_i hHeld; clear hHeld
              have hG : wr.grownBy ((((((wr.setCell ⟨tb, 4, none⟩ (.int .i64 (accA t.acc 0))).setCell ⟨tb, 5, none⟩ (.int .i64 (accA t.acc 1))).setCell ⟨tb, 6, none⟩ (.int .i64 (accA t.acc 2))).setCell ⟨tb, 7, none⟩ (.int .i64 (accI t.acc 0))).setCell ⟨tb, 8, none⟩ (.int .i64 (accI t.acc 1))).setCell ⟨tb, 9, none⟩ (.int .i64 (accI t.acc 2))).drew (some tb) := grown_ext (grown_one (grown_one (grown_one (grown_one (grown_one (setCell_grown wr tb 4 (.int .i64 (accA t.acc 0))) (setCell_grown _ tb 5 (.int .i64 (accA t.acc 1)))) (setCell_grown _ tb 6 (.int .i64 (accA t.acc 2)))) (setCell_grown _ tb 7 (.int .i64 (accI t.acc 0)))) (setCell_grown _ tb 8 (.int .i64 (accI t.acc 1)))) (setCell_grown _ tb 9 (.int .i64 (accI t.acc 2)))) (Ext.drew _)
              have hT : Turned tb tb wr ((((((wr.setCell ⟨tb, 4, none⟩ (.int .i64 (accA t.acc 0))).setCell ⟨tb, 5, none⟩ (.int .i64 (accA t.acc 1))).setCell ⟨tb, 6, none⟩ (.int .i64 (accA t.acc 2))).setCell ⟨tb, 7, none⟩ (.int .i64 (accI t.acc 0))).setCell ⟨tb, 8, none⟩ (.int .i64 (accI t.acc 1))).setCell ⟨tb, 9, none⟩ (.int .i64 (accI t.acc 2))).drew := Turned.one hG
              have hX7 := hT.ext H.out.ext HY4.out HY4.out
              have N1 := H.out.kept hG (fun e => HY1.out (Option.some.inj e).symm) (fun e => HY2.out (Option.some.inj e).symm) hX7
              have N2 := hT.blk HB.out HY3.out HY3.out
              have N3 := ((((((HS.out.set 4 (.int .i64 (accA t.acc 0))).set 5 (.int .i64 (accA t.acc 1))).set 6 (.int .i64 (accA t.acc 2))).set 7 (.int .i64 (accI t.acc 0))).set 8 (.int .i64 (accI t.acc 1))).set 9 (.int .i64 (accI t.acc 2)))
              rw [stp_full] at N3
              replace N3 := BlkOf.ext N3 (Ext.drew _)
              have N4 := hT.own HO.out HY5.out HY5.out
              clear H HB HS HO hG hT hX7 d8 d9 d10 d11 d12 d13 e4 e5 e6 e7 e8 e9 g4 g5 g6 g7 g8 g9 hi hil
              generalize ((((((wr.setCell ⟨tb, 4, none⟩ (.int .i64 (accA t.acc 0))).setCell ⟨tb, 5, none⟩ (.int .i64 (accA t.acc 1))).setCell ⟨tb, 6, none⟩ (.int .i64 (accA t.acc 2))).setCell ⟨tb, 7, none⟩ (.int .i64 (accI t.acc 0))).setCell ⟨tb, 8, none⟩ (.int .i64 (accI t.acc 1))).setCell ⟨tb, 9, none⟩ (.int .i64 (accI t.acc 2))).drew = W7 at *
              have H := Lib.hid N1; have HB := Lib.hid N2; have HS := Lib.hid N3; have HO := Lib.hid N4
              clear N1 N2 N3 N4
              have c15 : W7.cell? ⟨b, 15, none⟩ = some sv := H.out.blk.cell 15
              have b0 : W7.cell? ⟨zb, 0, none⟩ = some (.int .i64 x.op) := HB.out.cell 0
              have e0 : W7.cell? ⟨tb, 0, none⟩ = some (.int .i64 s.pc) := HS.out.cell 0
              have e1 : W7.cell? ⟨tb, 1, none⟩ = some (.int .i64 s.fp) := HS.out.cell 1
              have e2 : W7.cell? ⟨tb, 2, none⟩ = some (.int .i64 s.ap) := HS.out.cell 2
              have e3 : W7.cell? ⟨tb, 3, none⟩ = some (.int .i64 s.rv) := HS.out.cell 3
              have e4 : W7.cell? ⟨tb, 4, none⟩ = some (.int .i64 (accA t.acc 0)) := HS.out.cell 4
              have e5 : W7.cell? ⟨tb, 5, none⟩ = some (.int .i64 (accA t.acc 1)) := HS.out.cell 5
              have e6 : W7.cell? ⟨tb, 6, none⟩ = some (.int .i64 (accA t.acc 2)) := HS.out.cell 6
              have e7 : W7.cell? ⟨tb, 7, none⟩ = some (.int .i64 (accI t.acc 0)) := HS.out.cell 7
              have e8 : W7.cell? ⟨tb, 8, none⟩ = some (.int .i64 (accI t.acc 1)) := HS.out.cell 8
              have e9 : W7.cell? ⟨tb, 9, none⟩ = some (.int .i64 (accI t.acc 2)) := HS.out.cell 9
              have hlen : L.length + 1 ≤ 4294967296 := by have := HK.out; omega
              have k15 : (W7.alloc (.cells #[.int .i64 s.pc, .int .i64 s.fp, .int .i64 s.ap, .int .i64 s.rv, .int .i64 (accA t.acc 0), .int .i64 (accA t.acc 1), .int .i64 (accA t.acc 2), .int .i64 (accI t.acc 0), .int .i64 (accI t.acc 1), .int .i64 (accI t.acc 2)] 222)).cell? ⟨b, 15, none⟩ = some sv := (Ext.alloc _ _).cell c15
              go_wp2_with fail
              refine wp_region_stop (fun _ _ => False) (fun _ _ _ _ h => h.elim) ?_
              go_region_law ((refine step_appNw (W := W7.drew) rfl _ _ 165 rfl slStep rfl H.out.ext.size (own_ext HO.out (Ext.drew W7)) rfl #[.int .i64 s.pc, .int .i64 s.fp, .int .i64 s.ap, .int .i64 s.rv, .int .i64 (accA t.acc 0), .int .i64 (accA t.acc 1), .int .i64 (accA t.acc 2), .int .i64 (accI t.acc 0), .int .i64 (accI t.acc 1), .int .i64 (accI t.acc 2)] rfl (by simp [Value.oneCell']) rfl hlen (by omega) ?_; intro v8 w8 HO8 HG8 HM8; obtain ⟨av, cv, rfl⟩ := own_shape HO8; have HGx := Lib.hid HG8; have HOx := Lib.hid HO8; have hb8 := (H.out.blk.ext (Ext.drew W7)).grown HG8 (fun e => own_not_blk HO.out H.out.blk (by decide) e.symm); have l15 : w8.cell? ⟨b, 15, none⟩ = some sv := hb8.cell 15; have q15 := hb8.free 15; have HBx := Lib.hid hb8; clear hb8 HG8 HO8 HM8))
              all_goals
                refine OrStop.normal ?_
                clear k15 c15 e0 e1 e2 e3 e4 e5 e6 e7 e8 e9 b0
                obtain ⟨hm9, ho9, ht9⟩ := run_app H.out HO.out HGx.out HOx.out
                have hop9 : BlkOf _ zb (insCs x) 111 := ht9 zb _ _ HB.out HZ1.out (fun e => by have := own_not_blk HO.out HB.out (by decide); exact this e.symm)
                have HM9 := Lib.hid hm9; have HO9 := Lib.hid ho9
                have b0 := hop9.cell 0
                have c16 := hm9.blk.cell 16
                have q16 := hm9.blk.free 16
                replace b0 : _ = some (Value.int .i64 x.op) := b0
                replace c16 : _ = some (Value.int .i64 (L.length : Int)) := c16
                clear l15 q15 HGx HOx HBx H HO HB HS hm9 ho9 ht9 hop9
                revert HM9 HO9 b0 c16 q16
                generalize World.setCell _ ⟨b, 15, none⟩ _ = W9
                intro HM9 HO9 b0 c16 q16
                go_wp2_with fail
                go_ret
                have hLl : (((L ++ [s.note t.acc]).length : Nat) : Int) = (L.length : Int) + 1 := by simp
                rw [← HR.out, runM_halt (by have := HPC.out; omega) (by rw [← HXI.out]; exact HOP.out) (by rw [← HXI.out]; exact HU.out)]
                rw [← HXI.out, ← HTE.out]
                exact ⟨rfl, t, n, _, _, HM9.out, HTM.out, hLl, flatS_own HO9.out⟩
      · have hob : (x.op != 0) = true := by simpa using hop
        have HOP := Lib.hid hop; clear hop
        cases k with
        | zero =>
          have hlb : ((L.length : Int) == lim) = true := by simpa using hkl
          clear hkl
          go_wp2_with fail
          exact ⟨rfl, by rw [← HR.out, runM_long (by have := HPC.out; omega) (by rw [← HXI.out]; exact HOP.out)]; exact ⟨rfl, H.out.ext⟩⟩
        | succ k =>
          have hlb : ((L.length : Int) == lim) = false := by rw [beq_eq_false_iff_ne]; omega
          clear hkl
          have c4 : W2.cell? ⟨b, 4, none⟩ = some (.int .i64 s.pc) := H.out.blk.cell 4
          have c5 : W2.cell? ⟨b, 5, none⟩ = some (.int .i64 s.fp) := H.out.blk.cell 5
          have c6 : W2.cell? ⟨b, 6, none⟩ = some (.int .i64 s.ap) := H.out.blk.cell 6
          have c7 : W2.cell? ⟨b, 7, none⟩ = some (.int .i64 s.rv) := H.out.blk.cell 7
          go_wp2_with fail
          go_region_held3 (fun w' => w'.cell? ⟨b, 4, none⟩ = some (.int .i64 s.pc) ∧ w'.cell? ⟨b, 5, none⟩ = some (.int .i64 s.fp) ∧ w'.cell? ⟨b, 6, none⟩ = some (.int .i64 s.ap) ∧ w'.cell? ⟨b, 7, none⟩ = some (.int .i64 s.rv)) (go_keep) (fail)
          rename_i hHeld; clear hHeld
          have hxB : Ext W2 (W2.alloc (.cells #[.int .i64 s.pc, .int .i64 s.fp, .int .i64 s.ap, .int .i64 s.rv, .int .i64 0, .int .i64 0, .int .i64 0, .int .i64 0, .int .i64 0, .int .i64 0] 222)).drew := (Ext.alloc _ _).trans (Ext.drew _)
          have hbB : BlkOf (W2.alloc (.cells #[.int .i64 s.pc, .int .i64 s.fp, .int .i64 s.ap, .int .i64 s.rv, .int .i64 0, .int .i64 0, .int .i64 0, .int .i64 0, .int .i64 0, .int .i64 0] 222)).drew W2.heap.size (stp0 s) 222 := BlkOf.new W2 (stp0 s) 222
          have hy1 : W2.heap.size ≠ b := by have := H.out.blk.lt; omega
          have hy2 : W2.heap.size ≠ mb := by have := H.out.told.lt; omega
          have hy3 : zb ≠ W2.heap.size := by have := HB.out.lt; omega
          have hy4 : w0.heap.size ≤ W2.heap.size := H.out.ext.size
          have hy5 : sv.ownBlock ≠ some W2.heap.size := fun e => by have := (HO.out.lt _ e).2; omega
          replace H := Lib.hid (H.out.to hxB); replace HO := Lib.hid (own_ext HO.out hxB); replace HB := Lib.hid (HB.out.ext hxB)
          have HS := Lib.hid hbB
          clear c4 c5 c6 c7 c16 b0 hxB hbB
          generalize (W2.alloc (.cells #[.int .i64 s.pc, .int .i64 s.fp, .int .i64 s.ap, .int .i64 s.rv, .int .i64 0, .int .i64 0, .int .i64 0, .int .i64 0, .int .i64 0, .int .i64 0] 222)).drew = W3 at *
          generalize W2.heap.size = tb at *
          have HY1 := Lib.hid hy1; have HY2 := Lib.hid hy2; have HY3 := Lib.hid hy3; have HY4 := Lib.hid hy4; have HY5 := Lib.hid hy5
          clear hy1 hy2 hy3 hy4 hy5
          have b0 : W3.cell? ⟨zb, 0, none⟩ = some (.int .i64 x.op) := HB.out.cell 0
          have d8 : W3.cell? ⟨b, 8, none⟩ = some (.int .i64 (accA s.acc 0)) := H.out.blk.cell 8
          have f8 := H.out.blk.free 8
          have d9 : W3.cell? ⟨b, 9, none⟩ = some (.int .i64 (accA s.acc 1)) := H.out.blk.cell 9
          have f9 := H.out.blk.free 9
          have d10 : W3.cell? ⟨b, 10, none⟩ = some (.int .i64 (accA s.acc 2)) := H.out.blk.cell 10
          have f10 := H.out.blk.free 10
          have d11 : W3.cell? ⟨b, 11, none⟩ = some (.int .i64 (accI s.acc 0)) := H.out.blk.cell 11
          have f11 := H.out.blk.free 11
          have d12 : W3.cell? ⟨b, 12, none⟩ = some (.int .i64 (accI s.acc 1)) := H.out.blk.cell 12
          have f12 := H.out.blk.free 12
          have d13 : W3.cell? ⟨b, 13, none⟩ = some (.int .i64 (accI s.acc 2)) := H.out.blk.cell 13
          have f13 := H.out.blk.free 13
          have d14 : W3.cell? ⟨b, 14, none⟩ = some (.int .i64 (s.acc.length)) := H.out.blk.cell 14
          have f14 := H.out.blk.free 14
          go_upto_region 7 with (fail)
          have hG : W3.grownBy (((((((W3.setCell ⟨b, 8, none⟩ (.int .i64 0)).setCell ⟨b, 9, none⟩ (.int .i64 0)).setCell ⟨b, 10, none⟩ (.int .i64 0)).setCell ⟨b, 11, none⟩ (.int .i64 0)).setCell ⟨b, 12, none⟩ (.int .i64 0)).setCell ⟨b, 13, none⟩ (.int .i64 0)).setCell ⟨b, 14, none⟩ (.int .i64 0)) (some b) := grown_one (grown_one (grown_one (grown_one (grown_one (grown_one (setCell_grown W3 b 8 (.int .i64 0)) (setCell_grown _ b 9 (.int .i64 0))) (setCell_grown _ b 10 (.int .i64 0))) (setCell_grown _ b 11 (.int .i64 0))) (setCell_grown _ b 12 (.int .i64 0))) (setCell_grown _ b 13 (.int .i64 0))) (setCell_grown _ b 14 (.int .i64 0))
          have hBk := ((((((((((((((H.out.blk).set 8 (.int .i64 0))).set 9 (.int .i64 0))).set 10 (.int .i64 0))).set 11 (.int .i64 0))).set 12 (.int .i64 0))).set 13 (.int .i64 0))).set 14 (.int .i64 0))
          rw [mcells_blank] at hBk
          have hM4 := H.out.wrote (s' := s.blank) (sv' := sv) hG hBk rfl H.out.dnb (blank_ok H.out.ok)
          have hT4 : Turned b mb W3 (((((((W3.setCell ⟨b, 8, none⟩ (.int .i64 0)).setCell ⟨b, 9, none⟩ (.int .i64 0)).setCell ⟨b, 10, none⟩ (.int .i64 0)).setCell ⟨b, 11, none⟩ (.int .i64 0)).setCell ⟨b, 12, none⟩ (.int .i64 0)).setCell ⟨b, 13, none⟩ (.int .i64 0)).setCell ⟨b, 14, none⟩ (.int .i64 0)) := Turned.one hG
          have hO4 := hT4.own HO.out (own_not_blk HO.out H.out.blk (by decide)) (own_not_map HO.out H.out.told)
          replace HB := Lib.hid (hT4.blk HB.out HZ1.out HZ2.out); replace HS := Lib.hid (hT4.blk HS.out HY1.out HY2.out); replace HO := Lib.hid hO4; replace H := Lib.hid hM4
          clear hG hBk hM4 hT4 hO4 b0 d8 d9 d10 d11 d12 d13 d14 f8 f9 f10 f11 f12 f13 f14
          generalize (((((((W3.setCell ⟨b, 8, none⟩ (.int .i64 0)).setCell ⟨b, 9, none⟩ (.int .i64 0)).setCell ⟨b, 10, none⟩ (.int .i64 0)).setCell ⟨b, 11, none⟩ (.int .i64 0)).setCell ⟨b, 12, none⟩ (.int .i64 0)).setCell ⟨b, 13, none⟩ (.int .i64 0)).setCell ⟨b, 14, none⟩ (.int .i64 0)) = W4 at *
          have b0 : W4.cell? ⟨zb, 0, none⟩ = some (.int .i64 x.op) := HB.out.cell 0
          have b1 : W4.cell? ⟨zb, 1, none⟩ = some (.int .i64 x.a) := HB.out.cell 1
          have b2 : W4.cell? ⟨zb, 2, none⟩ = some (.int .i64 x.b) := HB.out.cell 2
          have b3 : W4.cell? ⟨zb, 3, none⟩ = some (.int .i64 x.c) := HB.out.cell 3
          have hob0 : (x.op == 0) = false := by simpa using hob
          go_wp2_with fail
          refine (mone_any H.out x rfl (by have := HN.out; have := HK.out; omega)).mono ?_
          intro e w5 h5
          rcases mgot_cases h5 with ⟨q, hr, rfl, hx⟩ | ⟨v, t, hr, rfl, hm, ht⟩
          · go_wp2_with fail
            exact ⟨rfl, by rw [← HR.out, runM_no (by have := HPC.out; omega) (by rw [← HXI.out]; exact HOP.out) (by rw [← HXI.out]; exact hr)]; exact ⟨rfl, hx⟩⟩
          have hacc : t.acc.length ≤ 3 := by
            have := (one_aft H.out.fld.two H.out.ok hr).len
            simpa [Ms.blank] using this
          have HRT := Lib.hid hr; have hTT := ht
          replace HB := Lib.hid (ht.blk HB.out HZ1.out HZ2.out); replace HS := Lib.hid (ht.blk HS.out HY1.out HY2.out); replace HO := Lib.hid (ht.own HO.out (own_not_blk HO.out H.out.blk (by decide)) (own_not_map HO.out H.out.told))
          replace H := Lib.hid hm
          clear hm ht h5 hr b0 b1 b2 b3 hTT
          have d14 : w5.cell? ⟨b, 14, none⟩ = some (.int .i64 t.acc.length) := H.out.blk.cell 14
          go_wp2_with fail
          go_loopw [89] (fun x89 wr => ∃ i : Nat, x89 = .int .i64 i ∧ i ≤ t.acc.length ∧ MAt w0 wr b mb (.pointer (some ⟨bf, 0, none⟩)) p g fs sz (.slice ao cd.length cap) cd t (n + 2) sv L.length ∧ BlkOf wr zb (insCs x) 111 ∧ BlkOf wr tb (stp0 s) 222 ∧ wr.ownsRow w0.heap.size 222 10 sv L.length (flatS L)) (fun x89 _ => t.acc.length - (intOf x89).toNat)
          case atStart => exact ⟨0, rfl, Nat.zero_le _, H.out, HB.out, HS.out, HO.out⟩
          case round =>
            clear H HB HS HO d14
            obtain ⟨i, rfl, hi, h, hb, hs, ho⟩ := hrel
            by_cases hil : i < t.acc.length
            · have hi3 : i = 0 ∨ i = 1 ∨ i = 2 := by omega
              have hmem : (accA t.acc i, accI t.acc i) ∈ t.acc := by
                unfold accA accI
                have e : t.acc.getD i (0, 0) = t.acc[i] := by simp [List.getD, hil]
                rw [e]; exact List.getElem_mem hil
              have hbd := (h.ok.mem _ (lk_mem (h.ok.acc _ hmem))).1
              have hp31 := h.fld.hi
              have hlk : (Instr.lookup 163 (.map (some mb)) (.int .i64 (accA t.acc i)) false).run Tryz.prog wr.drew = .ok (.int .i64 (accI t.acc i)) wr.drew := (h.told.kept ((Ext.drew wr).grownBy none) (by simp)).look Tryz.underlying3 Tryz.underlying163 zeroI hbd.1 (by have := hbd.2; dsimp only at this; omega) (h.ok.acc _ hmem)
              have c3 : wr.cell? ⟨b, 3, none⟩ = some (.map (some mb)) := h.blk.cell 3
              have H := Lib.hid h; have HB := Lib.hid hb; have HS := Lib.hid hs; have HO := Lib.hid ho
              clear h hb hs ho hmem hbd hp31
              rcases hi3 with rfl | rfl | rfl
              · have c8 : wr.cell? ⟨b, 8, none⟩ = some (.int .i64 (accA t.acc 0)) := H.out.blk.cell 8
                have c11 : wr.cell? ⟨b, 11, none⟩ = some (.int .i64 (accI t.acc 0)) := H.out.blk.cell 11
                have f11 := H.out.blk.free 11
                go_wp2_with fail
                go_region_held3 (fun w' => w'.cell? ⟨b, 3, none⟩ = some (.map (some mb)) ∧ w'.cell? ⟨b, 8, none⟩ = some (.int .i64 (accA t.acc 0))) (first | exact ⟨c3, c8⟩ | exact ⟨(World.cell?_setCell_other _ _ _ _ (by simp)).trans c3, (World.cell?_setCell_other _ _ _ _ (by simp)).trans c8⟩) (fail)
                rename_i hHeld; clear hHeld
                have hG : wr.grownBy (wr.setCell ⟨b, 11, none⟩ (.int .i64 (accI t.acc 0))).drew (some b) := grown_ext (setCell_grown wr b 11 (.int .i64 (accI t.acc 0))) (Ext.drew _)
                have hB6 : BlkOf (wr.setCell ⟨b, 11, none⟩ (.int .i64 (accI t.acc 0))).drew b (mcells (.pointer (some ⟨bf, 0, none⟩)) sz (.slice ao cd.length cap) mb t sv L.length) 167 := H.out.blk.set 11 (.int .i64 (accI t.acc 0))
                have N1 := H.out.wrote hG hB6 rfl H.out.dnb H.out.ok
                have hT6 : Turned b mb wr (wr.setCell ⟨b, 11, none⟩ (.int .i64 (accI t.acc 0))).drew := Turned.one hG
                have N2 := hT6.blk HB.out HZ1.out HZ2.out
                have N3 := hT6.blk HS.out HY1.out HY2.out
                have N4 := hT6.own HO.out (own_not_blk HO.out H.out.blk (by decide)) (own_not_map HO.out H.out.told)
                clear H HB HS HO hG hB6 hT6 c8 c11 f11 c3 hlk
                generalize (wr.setCell ⟨b, 11, none⟩ (.int .i64 (accI t.acc 0))).drew = W6 at *
                have M1 := Lib.hid N1; have M2 := Lib.hid N2; have M3 := Lib.hid N3; have M4 := Lib.hid N4
                clear N1 N2 N3 N4
                go_wp2_with fail
                go_roundw
                case rel => exact ⟨1, by go_num, by omega, M1.out, M2.out, M3.out, M4.out⟩
                case measure => simp [intOf]; omega
              · have c8 : wr.cell? ⟨b, 9, none⟩ = some (.int .i64 (accA t.acc 1)) := H.out.blk.cell 9
                have c11 : wr.cell? ⟨b, 12, none⟩ = some (.int .i64 (accI t.acc 1)) := H.out.blk.cell 12
                have f11 := H.out.blk.free 12
                go_wp2_with fail
                go_region_held3 (fun w' => w'.cell? ⟨b, 3, none⟩ = some (.map (some mb)) ∧ w'.cell? ⟨b, 9, none⟩ = some (.int .i64 (accA t.acc 1))) (first | exact ⟨c3, c8⟩ | exact ⟨(World.cell?_setCell_other _ _ _ _ (by simp)).trans c3, (World.cell?_setCell_other _ _ _ _ (by simp)).trans c8⟩) (fail)
                rename_i hHeld; clear hHeld
                have hG : wr.grownBy (wr.setCell ⟨b, 12, none⟩ (.int .i64 (accI t.acc 1))).drew (some b) := grown_ext (setCell_grown wr b 12 (.int .i64 (accI t.acc 1))) (Ext.drew _)
                have hB6 : BlkOf (wr.setCell ⟨b, 12, none⟩ (.int .i64 (accI t.acc 1))).drew b (mcells (.pointer (some ⟨bf, 0, none⟩)) sz (.slice ao cd.length cap) mb t sv L.length) 167 := H.out.blk.set 12 (.int .i64 (accI t.acc 1))
                have N1 := H.out.wrote hG hB6 rfl H.out.dnb H.out.ok
                have hT6 : Turned b mb wr (wr.setCell ⟨b, 12, none⟩ (.int .i64 (accI t.acc 1))).drew := Turned.one hG
                have N2 := hT6.blk HB.out HZ1.out HZ2.out
                have N3 := hT6.blk HS.out HY1.out HY2.out
                have N4 := hT6.own HO.out (own_not_blk HO.out H.out.blk (by decide)) (own_not_map HO.out H.out.told)
                clear H HB HS HO hG hB6 hT6 c8 c11 f11 c3 hlk
                generalize (wr.setCell ⟨b, 12, none⟩ (.int .i64 (accI t.acc 1))).drew = W6 at *
                have M1 := Lib.hid N1; have M2 := Lib.hid N2; have M3 := Lib.hid N3; have M4 := Lib.hid N4
                clear N1 N2 N3 N4
                go_wp2_with fail
                go_roundw
                case rel => exact ⟨2, by go_num, by omega, M1.out, M2.out, M3.out, M4.out⟩
                case measure => simp [intOf]; omega
              · have c8 : wr.cell? ⟨b, 10, none⟩ = some (.int .i64 (accA t.acc 2)) := H.out.blk.cell 10
                have c11 : wr.cell? ⟨b, 13, none⟩ = some (.int .i64 (accI t.acc 2)) := H.out.blk.cell 13
                have f11 := H.out.blk.free 13
                go_wp2_with fail
                go_region_held3 (fun w' => w'.cell? ⟨b, 3, none⟩ = some (.map (some mb)) ∧ w'.cell? ⟨b, 10, none⟩ = some (.int .i64 (accA t.acc 2))) (first | exact ⟨c3, c8⟩ | exact ⟨(World.cell?_setCell_other _ _ _ _ (by simp)).trans c3, (World.cell?_setCell_other _ _ _ _ (by simp)).trans c8⟩) (fail)
                rename_i hHeld; clear hHeld
                have hG : wr.grownBy (wr.setCell ⟨b, 13, none⟩ (.int .i64 (accI t.acc 2))).drew (some b) := grown_ext (setCell_grown wr b 13 (.int .i64 (accI t.acc 2))) (Ext.drew _)
                have hB6 : BlkOf (wr.setCell ⟨b, 13, none⟩ (.int .i64 (accI t.acc 2))).drew b (mcells (.pointer (some ⟨bf, 0, none⟩)) sz (.slice ao cd.length cap) mb t sv L.length) 167 := H.out.blk.set 13 (.int .i64 (accI t.acc 2))
                have N1 := H.out.wrote hG hB6 rfl H.out.dnb H.out.ok
                have hT6 : Turned b mb wr (wr.setCell ⟨b, 13, none⟩ (.int .i64 (accI t.acc 2))).drew := Turned.one hG
                have N2 := hT6.blk HB.out HZ1.out HZ2.out
                have N3 := hT6.blk HS.out HY1.out HY2.out
                have N4 := hT6.own HO.out (own_not_blk HO.out H.out.blk (by decide)) (own_not_map HO.out H.out.told)
                clear H HB HS HO hG hB6 hT6 c8 c11 f11 c3 hlk
                generalize (wr.setCell ⟨b, 13, none⟩ (.int .i64 (accI t.acc 2))).drew = W6 at *
                have M1 := Lib.hid N1; have M2 := Lib.hid N2; have M3 := Lib.hid N3; have M4 := Lib.hid N4
                clear N1 N2 N3 N4
                go_wp2_with fail
                go_roundw
                case rel => exact ⟨3, by go_num, by omega, M1.out, M2.out, M3.out, M4.out⟩
                case measure => simp [intOf]; omega
            · obtain rfl : i = t.acc.length := by omega
              have d8 : wr.cell? ⟨b, 8, none⟩ = some (.int .i64 (accA t.acc 0)) := h.blk.cell 8
              have d9 : wr.cell? ⟨b, 9, none⟩ = some (.int .i64 (accA t.acc 1)) := h.blk.cell 9
              have d10 : wr.cell? ⟨b, 10, none⟩ = some (.int .i64 (accA t.acc 2)) := h.blk.cell 10
              have d11 : wr.cell? ⟨b, 11, none⟩ = some (.int .i64 (accI t.acc 0)) := h.blk.cell 11
              have d12 : wr.cell? ⟨b, 12, none⟩ = some (.int .i64 (accI t.acc 1)) := h.blk.cell 12
              have d13 : wr.cell? ⟨b, 13, none⟩ = some (.int .i64 (accI t.acc 2)) := h.blk.cell 13
              have e4 : wr.cell? ⟨tb, 4, none⟩ = some (.int .i64 0) := hs.cell 4
              have g4 := hs.free 4
              have e5 : wr.cell? ⟨tb, 5, none⟩ = some (.int .i64 0) := hs.cell 5
              have g5 := hs.free 5
              have e6 : wr.cell? ⟨tb, 6, none⟩ = some (.int .i64 0) := hs.cell 6
              have g6 := hs.free 6
              have e7 : wr.cell? ⟨tb, 7, none⟩ = some (.int .i64 0) := hs.cell 7
              have g7 := hs.free 7
              have e8 : wr.cell? ⟨tb, 8, none⟩ = some (.int .i64 0) := hs.cell 8
              have g8 := hs.free 8
              have e9 : wr.cell? ⟨tb, 9, none⟩ = some (.int .i64 0) := hs.cell 9
              have g9 := hs.free 9
              have hy : tb ≠ b := HY1.out
              have H := Lib.hid h; have HB := Lib.hid hb; have HS := Lib.hid hs; have HO := Lib.hid ho
              clear h hb hs ho
              go_wp2_with fail
              go_region_held3 (fun w' => w'.cell? ⟨b, 8, none⟩ = some (.int .i64 (accA t.acc 0)) ∧ w'.cell? ⟨b, 9, none⟩ = some (.int .i64 (accA t.acc 1)) ∧ w'.cell? ⟨b, 10, none⟩ = some (.int .i64 (accA t.acc 2)) ∧ w'.cell? ⟨b, 11, none⟩ = some (.int .i64 (accI t.acc 0)) ∧ w'.cell? ⟨b, 12, none⟩ = some (.int .i64 (accI t.acc 1)) ∧ w'.cell? ⟨b, 13, none⟩ = some (.int .i64 (accI t.acc 2))) (go_keep) (fail)
              rename_i hHeld; clear hHeld
              have hG : wr.grownBy ((((((wr.setCell ⟨tb, 4, none⟩ (.int .i64 (accA t.acc 0))).setCell ⟨tb, 5, none⟩ (.int .i64 (accA t.acc 1))).setCell ⟨tb, 6, none⟩ (.int .i64 (accA t.acc 2))).setCell ⟨tb, 7, none⟩ (.int .i64 (accI t.acc 0))).setCell ⟨tb, 8, none⟩ (.int .i64 (accI t.acc 1))).setCell ⟨tb, 9, none⟩ (.int .i64 (accI t.acc 2))).drew (some tb) := grown_ext (grown_one (grown_one (grown_one (grown_one (grown_one (setCell_grown wr tb 4 (.int .i64 (accA t.acc 0))) (setCell_grown _ tb 5 (.int .i64 (accA t.acc 1)))) (setCell_grown _ tb 6 (.int .i64 (accA t.acc 2)))) (setCell_grown _ tb 7 (.int .i64 (accI t.acc 0)))) (setCell_grown _ tb 8 (.int .i64 (accI t.acc 1)))) (setCell_grown _ tb 9 (.int .i64 (accI t.acc 2)))) (Ext.drew _)
              have hT : Turned tb tb wr ((((((wr.setCell ⟨tb, 4, none⟩ (.int .i64 (accA t.acc 0))).setCell ⟨tb, 5, none⟩ (.int .i64 (accA t.acc 1))).setCell ⟨tb, 6, none⟩ (.int .i64 (accA t.acc 2))).setCell ⟨tb, 7, none⟩ (.int .i64 (accI t.acc 0))).setCell ⟨tb, 8, none⟩ (.int .i64 (accI t.acc 1))).setCell ⟨tb, 9, none⟩ (.int .i64 (accI t.acc 2))).drew := Turned.one hG
              have hX7 := hT.ext H.out.ext HY4.out HY4.out
              have N1 := H.out.kept hG (fun e => HY1.out (Option.some.inj e).symm) (fun e => HY2.out (Option.some.inj e).symm) hX7
              have N2 := hT.blk HB.out HY3.out HY3.out
              have N3 := ((((((HS.out.set 4 (.int .i64 (accA t.acc 0))).set 5 (.int .i64 (accA t.acc 1))).set 6 (.int .i64 (accA t.acc 2))).set 7 (.int .i64 (accI t.acc 0))).set 8 (.int .i64 (accI t.acc 1))).set 9 (.int .i64 (accI t.acc 2)))
              rw [stp_full] at N3
              replace N3 := BlkOf.ext N3 (Ext.drew _)
              have N4 := hT.own HO.out HY5.out HY5.out
              clear H HB HS HO hG hT hX7 d8 d9 d10 d11 d12 d13 e4 e5 e6 e7 e8 e9 g4 g5 g6 g7 g8 g9 hi hil
              generalize ((((((wr.setCell ⟨tb, 4, none⟩ (.int .i64 (accA t.acc 0))).setCell ⟨tb, 5, none⟩ (.int .i64 (accA t.acc 1))).setCell ⟨tb, 6, none⟩ (.int .i64 (accA t.acc 2))).setCell ⟨tb, 7, none⟩ (.int .i64 (accI t.acc 0))).setCell ⟨tb, 8, none⟩ (.int .i64 (accI t.acc 1))).setCell ⟨tb, 9, none⟩ (.int .i64 (accI t.acc 2))).drew = W7 at *
              have H := Lib.hid N1; have HB := Lib.hid N2; have HS := Lib.hid N3; have HO := Lib.hid N4
              clear N1 N2 N3 N4
              have c15 : W7.cell? ⟨b, 15, none⟩ = some sv := H.out.blk.cell 15
              have b0 : W7.cell? ⟨zb, 0, none⟩ = some (.int .i64 x.op) := HB.out.cell 0
              have e0 : W7.cell? ⟨tb, 0, none⟩ = some (.int .i64 s.pc) := HS.out.cell 0
              have e1 : W7.cell? ⟨tb, 1, none⟩ = some (.int .i64 s.fp) := HS.out.cell 1
              have e2 : W7.cell? ⟨tb, 2, none⟩ = some (.int .i64 s.ap) := HS.out.cell 2
              have e3 : W7.cell? ⟨tb, 3, none⟩ = some (.int .i64 s.rv) := HS.out.cell 3
              have e4 : W7.cell? ⟨tb, 4, none⟩ = some (.int .i64 (accA t.acc 0)) := HS.out.cell 4
              have e5 : W7.cell? ⟨tb, 5, none⟩ = some (.int .i64 (accA t.acc 1)) := HS.out.cell 5
              have e6 : W7.cell? ⟨tb, 6, none⟩ = some (.int .i64 (accA t.acc 2)) := HS.out.cell 6
              have e7 : W7.cell? ⟨tb, 7, none⟩ = some (.int .i64 (accI t.acc 0)) := HS.out.cell 7
              have e8 : W7.cell? ⟨tb, 8, none⟩ = some (.int .i64 (accI t.acc 1)) := HS.out.cell 8
              have e9 : W7.cell? ⟨tb, 9, none⟩ = some (.int .i64 (accI t.acc 2)) := HS.out.cell 9
              have hlen : L.length + 1 ≤ 4294967296 := by have := HK.out; omega
              have k15 : (W7.alloc (.cells #[.int .i64 s.pc, .int .i64 s.fp, .int .i64 s.ap, .int .i64 s.rv, .int .i64 (accA t.acc 0), .int .i64 (accA t.acc 1), .int .i64 (accA t.acc 2), .int .i64 (accI t.acc 0), .int .i64 (accI t.acc 1), .int .i64 (accI t.acc 2)] 222)).cell? ⟨b, 15, none⟩ = some sv := (Ext.alloc _ _).cell c15
              go_wp2_with fail
              refine wp_region_stop (fun _ _ => False) (fun _ _ _ _ h => h.elim) ?_
              go_region_law ((refine step_appNw (W := W7.drew) rfl _ _ 165 rfl slStep rfl H.out.ext.size (own_ext HO.out (Ext.drew W7)) rfl #[.int .i64 s.pc, .int .i64 s.fp, .int .i64 s.ap, .int .i64 s.rv, .int .i64 (accA t.acc 0), .int .i64 (accA t.acc 1), .int .i64 (accA t.acc 2), .int .i64 (accI t.acc 0), .int .i64 (accI t.acc 1), .int .i64 (accI t.acc 2)] rfl (by simp [Value.oneCell']) rfl hlen (by omega) ?_; intro v8 w8 HO8 HG8 HM8; obtain ⟨av, cv, rfl⟩ := own_shape HO8; have HGx := Lib.hid HG8; have HOx := Lib.hid HO8; have hb8 := (H.out.blk.ext (Ext.drew W7)).grown HG8 (fun e => own_not_blk HO.out H.out.blk (by decide) e.symm); have l15 : w8.cell? ⟨b, 15, none⟩ = some sv := hb8.cell 15; have q15 := hb8.free 15; have HBx := Lib.hid hb8; clear hb8 HG8 HO8 HM8))
              all_goals
                refine OrStop.normal ?_
                clear k15 c15 e0 e1 e2 e3 e4 e5 e6 e7 e8 e9 b0
                obtain ⟨hm9, ho9, ht9⟩ := run_app H.out HO.out HGx.out HOx.out
                have hop9 : BlkOf _ zb (insCs x) 111 := ht9 zb _ _ HB.out HZ1.out (fun e => by have := own_not_blk HO.out HB.out (by decide); exact this e.symm)
                have HM9 := Lib.hid hm9; have HO9 := Lib.hid ho9
                have b0 := hop9.cell 0
                have c16 := hm9.blk.cell 16
                have q16 := hm9.blk.free 16
                replace b0 : _ = some (Value.int .i64 x.op) := b0
                replace c16 : _ = some (Value.int .i64 (L.length : Int)) := c16
                clear l15 q15 HGx HOx HBx H HO HB HS hm9 ho9 ht9 hop9
                revert HM9 HO9 b0 c16 q16
                generalize World.setCell _ ⟨b, 15, none⟩ _ = W9
                intro HM9 HO9 b0 c16 q16
                have hL1 : (L.length : Int) ≤ 16383 := by have := HK.out; omega
                go_wp2_with fail
                have hGz : W9.grownBy (W9.setCell ⟨b, 16, none⟩ (.int .i64 ((L.length : Int) + 1))) (some b) := setCell_grown _ _ _ _
                have hmz := HM9.out.wrote hGz (s' := t) (sv' := .slice av (L.length + 1) cv) (dn' := (L.length : Int) + 1) (HM9.out.blk.set 16 (.int .i64 ((L.length : Int) + 1))) rfl (by omega) HM9.out.ok
                have hoz := (Turned.one (c := mb) hGz).own HO9.out (own_not_blk HO9.out HM9.out.blk (by decide)) (own_not_map HO9.out HM9.out.told)
                have HA := Lib.hid (runat_next (x := x) hmz HN.out HK.out HR.out (by have := HPC.out; omega) HXI.out HOP.out HRT.out hoz)
                have HC := Lib.hid (cellI_of (hmz.blk.cell 16))
                clear hGz hmz hoz
                go_roundw
                case rel => exact HA.out
                case measure => rw [HC.out, HC16.out]; omega
end
end Go.Proofs.YtgnomhbbbcfehaaGreatDoor
