/- A text's reader, the program's side: a part: contract. -/
import Derived.Test.YtgnomhbbbcfehaaGreatDoorZx6
import Derived.Deep.RegionHeld3
import Derived.Deep.DrawnRows
namespace Go.Att
open Go.RowKit
theorem grown_new {w w1 w2 : World} {b q : Nat} (h : w.grownBy w1 (some b)) (hg : w1.grownBy w2 (some q)) (hq : w.heap.size ≤ q) : w.grownBy w2 (some b) :=
  ⟨hg.os.trans h.os, hg.tape.trans h.tape, hg.output.trans h.output, Nat.le_trans h.size hg.size, fun k hk hne => by
    rw [hg.block k (Nat.lt_of_lt_of_le hk h.size) (fun e => by have := Option.some.inj e; omega)]
    exact h.block k hk hne⟩
theorem node0 {T E : TypeId} (w : World) (kd : Nat) (n : Int) (s : List UInt8) (p lo : Nat) (hl : lo ≤ w.heap.size) :
    trAt T E (.mk kd n s [] p) lo (w.alloc (.cells (pcells kd n s (.slice none 0 0) p).toArray T)).heap.size (w.alloc (.cells (pcells kd n s (.slice none 0 0) p).toArray T)) (.pointer (some ⟨w.heap.size, 0, none⟩)) :=
  (KidsIn.nil _).done hl (Nat.le_refl lo) (BlkOf.new w _ T)
theorem node1 {T E : TypeId} {lo h1 : Nat} {w : World} {v : Value} {x : Tr} (kd p : Nat) (hx : trAt T E x lo h1 w v) (hl : lo ≤ w.heap.size) (hh1 : h1 ≤ w.heap.size) :
    trAt T E (.mk kd 0 [] [x] p) lo ((w.alloc (.cells #[v] E)).alloc (.cells (pcells kd 0 [] (.slice (some ⟨w.heap.size, 0, none⟩) 1 1) p).toArray T)).heap.size ((w.alloc (.cells #[v] E)).alloc (.cells (pcells kd 0 [] (.slice (some ⟨w.heap.size, 0, none⟩) 1 1) p).toArray T)) (.pointer (some ⟨w.heap.size + 1, 0, none⟩)) := by
  have e1 := Ext.alloc w (.cells #[v] E)
  have e2 := Ext.alloc (w.alloc (.cells #[v] E)) (.cells (pcells kd 0 [] (.slice (some ⟨w.heap.size, 0, none⟩) 1 1) p).toArray T)
  have hb := BlkOf.new (w.alloc (.cells #[v] E)) (pcells kd 0 [] (.slice (some ⟨w.heap.size, 0, none⟩) 1 1) p) T
  have hz : (w.alloc (.cells #[v] E)).heap.size = w.heap.size + 1 := World.size_alloc _ _
  rw [hz] at hb
  have ho : (w.alloc (.cells #[v] E)).ownsRow w.heap.size E 1 (.slice (some ⟨w.heap.size, 0, none⟩) 1 1) 1 [v] :=
    ⟨by simp, .inr ⟨w.heap.size, 1, #[v], rfl, Nat.le_refl _, heap_alloc_new w _, Nat.le_refl _, by unfold maxLen; omega, rfl, by simp⟩⟩
  have ho := own_ext ho e2
  have hsz := e2.size
  have hsz1 := e1.size
  refine trAt_mk.mpr ⟨_, _, [v], rfl, by omega, hb.lt, hb, own_from ho hl, fun A hA => ?_, .cons ((hx.ext (e1.trans e2)).mono (Nat.le_refl _) (by omega)) .nil⟩
  have hq := hb.lt
  have hA2 : w.heap.size = A := Option.some.inj hA
  omega
end Go.Att
namespace Go.Proofs.YtgnomhbbbcfehaaGreatDoor
open Go.RowKit Go.Att Go.Shelf
section
variable {wz w : World} {b : Nat} {L : List UInt8} {i lv : Nat}
set_option maxRecDepth 100000 in
set_option maxHeartbeats 8000000 in
theorem spart_any {k : Nat} {P E : Nat → Ps Tr} (hmE : Mono L E) (hpE : Prog1 L E) (hk : lv + k = 64) (hP : k ≠ 0 → ReadsBy wz 164 b L (lv + 1) P) (hE : k ≠ 0 → ReadsBy wz 56 b L (lv + 1) E) (hL : L.length ≤ 4000) (hwb : wz.heap.size ≤ b) (herr : ErrR wz) :
    ReadsBy wz 164 b L lv (partT L k P E) := fun w i h hx => by
  have c2 : w.cell? ⟨b, 2, none⟩ = some (.int .i64 (tokN L i).kind) := BlkOf.cell h.blk 2
  have c3 : w.cell? ⟨b, 3, none⟩ = some (.int .i64 (tokN L i).pos) := BlkOf.cell h.blk 3
  have c4 : w.cell? ⟨b, 4, none⟩ = some (.string ⟨(tokN L i).txt.toArray⟩) := BlkOf.cell h.blk 4
  have hblt := h.lt
  have e1 := Ext.alloc w (.cells #[.pointer (some ⟨b, 0, none⟩)] 64)
  have e2 := Ext.alloc (w.alloc (.cells #[.pointer (some ⟨b, 0, none⟩)] 64)) (.cells #[.int .i64 (tokN L i).kind, .int .i64 (tokN L i).pos, .string ⟨(tokN L i).txt.toArray⟩] 66)
  have HRB := Lib.hid ((BlkOf.new w [.pointer (some ⟨b, 0, none⟩)] 64).ext e2)
  have HTB := Lib.hid (BlkOf.new (w.alloc (.cells #[.pointer (some ⟨b, 0, none⟩)] 64)) [.int .i64 (tokN L i).kind, .int .i64 (tokN L i).pos, .string ⟨(tokN L i).txt.toArray⟩] 66)
  have hz : (w.alloc (.cells #[.pointer (some ⟨b, 0, none⟩)] 64)).heap.size = w.heap.size + 1 := World.size_alloc _ _
  have HX2 := Lib.hid (e1.trans e2)
  have HR2 := Lib.hid (h.ext HX2.out)
  have HX0 := Lib.hid hx; have HWB := Lib.hid hwb
  have HER := Lib.hid herr
  have HSZ := Lib.hid (show w.heap.size + 2 ≤ ((w.alloc (.cells #[.pointer (some ⟨b, 0, none⟩)] 64)).alloc (.cells #[.int .i64 (tokN L i).kind, .int .i64 (tokN L i).pos, .string ⟨(tokN L i).txt.toArray⟩] 66)).heap.size from by
    rw [World.size_alloc, World.size_alloc]; omega)
  rw [hz] at HTB
  have HWORD := Lib.hid (fun h => tokN_word (L := L) (i := i) (.inr h))
  have HTL := Lib.hid (show (tokN L i).txt.length ≤ 4000 from by
    have h1 := nxtN_le L i h.le
    unfold nxtN at h1; omega)
  have HLE := Lib.hid h.le
  clear h hx e1 e2 hwb herr hz
  generalize hR : partT L k P E i = R
  have HRR := Lib.hid hR.symm
  clear hR
  go_enter Tryz.func164, Tryz.ntmps164
  go_upto_region 2 with fail
  generalize (w.alloc (.cells #[.pointer (some ⟨b, 0, none⟩)] 64)).alloc (.cells #[.int .i64 (tokN L i).kind, .int .i64 (tokN L i).pos, .string ⟨(tokN L i).txt.toArray⟩] 66) = w2 at *
  obtain ⟨rb, hrb⟩ : ∃ rb, w.heap.size = rb := ⟨_, rfl⟩
  rw [hrb] at HRB HTB HSZ hblt ⊢
  have HRBE := Lib.hid hrb
  clear hrb c2 c3 c4
  have HG2 := Lib.hid (HX2.out.grownBy (some b))
  have HXZ2 := Lib.hid (HX0.out.trans HX2.out)
  have HKEEP := Lib.hid (fun (W : World) (hg : w2.grownBy W (some b)) => (⟨hg.cell (HRB.out.cell 0) (by simp; omega), hg.cell (HTB.out.cell 0) (by simp; omega), hg.cell (HTB.out.cell 1) (by simp; omega), hg.cell (HTB.out.cell 2) (by simp; omega), Nat.le_trans HSZ.out hg.size⟩ : W.cell? ⟨rb, 0, none⟩ = some (.pointer (some ⟨b, 0, none⟩)) ∧ W.cell? ⟨rb + 1, 0, none⟩ = some (.int .i64 (tokN L i).kind) ∧ W.cell? ⟨rb + 1, 1, none⟩ = some (.int .i64 (tokN L i).pos) ∧ W.cell? ⟨rb + 1, 2, none⟩ = some (.string ⟨(tokN L i).txt.toArray⟩) ∧ rb + 2 ≤ W.heap.size))
  obtain ⟨d0, t0, t1, t2, -⟩ := HKEEP.out w2 (World.grownBy.refl _ _)
  clear HRB HTB HX2
  by_cases hk2 : (tokN L i).kind = 2
  · have hkb : (((tokN L i).kind : Int) == 2) = true := by rw [hk2]; rfl
    obtain ⟨w1', w2', w3'⟩ := HWORD.out hk2
    have hkw : kindW (tokN L i).txt = 2 := by rw [← w1', hk2]
    have HRX := Lib.hid (show R = match Lib.atoiAll (tokN L i).txt with | .ok n => .ok (.mk 0 n [] [] (tokN L i).pos) (nxtN L i) | _ => .bad (tokN L i).pos 3 from by rw [HRR.out]; unfold partT; rw [if_pos hk2]; rfl)
    by_cases hok : ∃ n, Lib.atoiAll (tokN L i).txt = .ok n
    · obtain ⟨n, hn⟩ := hok
      have HA := Lib.hid (satoi_ok HTL.out hn)
      have HRY := Lib.hid (show R = .ok (.mk 0 n [] [] (tokN L i).pos) (nxtN L i) from HRX.out.trans (by rw [hn]))
      clear HRX HRR w1' w2' w3' hkw hk2 hn
      generalize (tokN L i).kind = K at *
      generalize (tokN L i).txt = tx at *
      go_upto_region 6 with (go_at_call 185; refine (HA.out _).mono ?_; rintro e w3 ⟨rfl, hx3⟩; have HX3 := Lib.hid hx3; clear hx3)
      have d0' := HX3.out.cell d0
      go_upto_region 7 with (go_at_call 24; refine (sadv_at (HR2.out.ext HX3.out) hL).mono ?_; rintro e w4 ⟨rfl, hr4, hg4⟩; have HR4 := Lib.hid hr4; have HG4 := Lib.hid (grown_one (HX3.out.grownBy (some b)) hg4); clear hr4 hg4)
      obtain ⟨-, -, t1', -, hs4⟩ := HKEEP.out w4 HG4.out
      have HND := Lib.hid (node0 (T := 152) (E := 83) w4 0 n [] (tokN L i).pos w.heap.size (by rw [HRBE.out]; omega))
      have HXN := Lib.hid (Ext.alloc w4 (.cells (pcells 0 n [] (.slice none 0 0) (tokN L i).pos).toArray 152))
      go_wp2_with fail
      go_ret
      exact PGot.ok HRY.out (HR4.out.ext HXN.out) (grown_ext (grown_one HG2.out HG4.out) HXN.out) HND.out
    · have HA := Lib.hid (satoi_no hkw w3' HTL.out (fun v h => hok ⟨v, h⟩) w2 (HER.out.ext HXZ2.out))
      have HRY := Lib.hid (show R = .bad (tokN L i).pos 3 from HRX.out.trans (by
        cases e : Lib.atoiAll (tokN L i).txt
        · exact absurd ⟨_, e⟩ hok
        · rfl
        · rfl))
      clear HRX HRR w1' w2' w3' hkw hk2 hok
      generalize (tokN L i).kind = K at *
      generalize (tokN L i).txt = tx at *
      go_upto_region 5 with (go_at_call 185; refine (HA.out).mono ?_; rintro e w3 ⟨⟨x, T, N, rfl⟩, hx3⟩; have HX3 := Lib.hid hx3; clear hx3)
      have d0' := HX3.out.cell d0
      go_wp2_with (go_at_call 93; refine (sfail_any (HR2.out.ext HX3.out) 3).mono ?_; rintro e w4 ⟨rfl, hg4⟩)
      exact ⟨rfl, PGot.bad HRY.out ⟨rfl, grown_one (grown_ext HG2.out HX3.out) hg4⟩⟩
  · have hkb : (((tokN L i).kind : Int) == 2) = false := by rw [beq_eq_false_iff_ne]; omega
    have HRX := Lib.hid (show R = if isT L i [40] then (enterT L k i).bind fun _ j => (E j).bind fun x j => (mustT L j [41]).bind fun _ j => .ok x j
        else if isT L i [45] then (enterT L k i).bind fun _ j => (P j).bind fun x j => .ok (.mk 7 0 [] [x] (tokN L i).pos) j
        else (nameT L i).bind fun s j => if isT L j [40] then (listT L k E j).bind fun kids j => .ok (.mk 11 0 s.1 kids s.2) j else .ok (.mk 1 0 s.1 [] s.2) j from by
      rw [HRR.out]; unfold partT; rw [if_neg hk2])
    have HS40 := Lib.hid (sis_any HR2.out [40])
    have HS45 := Lib.hid (sis_any HR2.out [45])
    have HEN := Lib.hid (senter_any HR2.out hL hk)
    have HNM := Lib.hid (sname_any HR2.out hL)
    clear HRR hk2 HWORD HTL
    generalize (tokN L i).kind = K at *
    generalize (tokN L i).txt = tx at *
    generalize (tokN L i).pos = ps at *
    cases e40 : isT L i [40] with
    | true =>
      rw [e40] at HS40
      have HRY := Lib.hid (show R = (enterT L k i).bind fun _ j => (E j).bind fun x j => (mustT L j [41]).bind fun _ j => .ok x j from HRX.out.trans (by rw [e40, if_pos rfl]))
      clear e40 HRX HS45 HNM
      go_upto_region 9 with (go_at_call 95; refine HS40.out.mono ?_; rintro e w3 ⟨rfl, rfl⟩)
      go_wp2_with fail
      refine HEN.out.mono ?_
      intro e w3 h3
      rcases PGot.cases h3 with ⟨a, d, hr, he, hg⟩ | ⟨x, j, v, hr, rfl, hr3, hg3, rfl⟩
      · subst he
        go_wp2_with fail
        exact ⟨rfl, PGot.bad (HRY.out.trans (by rw [hr]; rfl)) ⟨rfl, grown_one HG2.out hg⟩⟩
      · have HRZ := Lib.hid (show R = (E j).bind fun x j => (mustT L j [41]).bind fun _ j => .ok x j from HRY.out.trans (by rw [hr]; rfl))
        have HE3 := Lib.hid (hE (enter_ok.mp hr).1)
        have HR3 := Lib.hid hr3; have HG3 := Lib.hid hg3
        obtain ⟨d3, -, -, -, hs3⟩ := HKEEP.out w3 hg3
        clear hr hr3 hg3 h3 HRY HEN HS40 d0 t0 t1 t2
        go_upto_region 10 with fail
        go_wp2_with fail
        refine (HE3.out w3 j HR3.out (ext_turn HXZ2.out HG3.out HWB.out)).mono ?_
        intro e w4 h4
        rcases PGot.cases h4 with ⟨a, d, hr, he, hg⟩ | ⟨x, m, v, hr, rfl, hr4, hg4, ht4⟩
        · subst he
          go_wp2_with fail
          exact ⟨rfl, PGot.bad (HRZ.out.trans (by rw [hr]; rfl)) ⟨rfl, grown_one (grown_one HG2.out HG3.out) hg⟩⟩
        · have HRW := Lib.hid (show R = (mustT L m [41]).bind fun _ j => .ok x j from HRZ.out.trans (by rw [hr]; rfl))
          have HR4 := Lib.hid hr4; have HG4 := Lib.hid (grown_one HG3.out hg4); have HT4 := Lib.hid ht4
          obtain ⟨d4, -, -, -, hs4⟩ := HKEEP.out w4 HG4.out
          obtain ⟨q, rfl, -, -⟩ := trAt.ptr ht4
          clear hr hr4 hg4 h4 ht4 HRZ d3
          go_upto_region 11 with fail
          go_wp2_with fail
          refine (smust_any HR4.out hL [41]).mono ?_
          intro e w5 h5
          rcases PGot.cases h5 with ⟨a, d, hr, he, hg⟩ | ⟨y, m2, v, hr, rfl, hr5, hg5, rfl⟩
          · subst he
            go_wp2_with fail
            exact ⟨rfl, PGot.bad (HRW.out.trans (by rw [hr]; rfl)) ⟨rfl, grown_one (grown_one HG2.out HG4.out) hg⟩⟩
          · have HRV := Lib.hid (show R = .ok x m2 from HRW.out.trans (by rw [hr]; rfl))
            have HR5 := Lib.hid hr5; have HG5 := Lib.hid (grown_one HG4.out hg5)
            have HT5 := Lib.hid (HT4.out.kept hg5 (fun r e => by have := Option.some.inj e; omega))
            obtain ⟨d5, -, -, -, hs5⟩ := HKEEP.out w5 HG5.out
            have hsz5 := hg5.size
            clear hr hr5 hg5 h5 HRW d4
            have k5 := HR5.out.lev
            have f5 := BlkOf.free HR5.out.blk 5
            go_wp2_with fail
            go_ret
            exact PGot.ok HRV.out (HR5.out.back (by omega)) (grown_one (grown_one HG2.out HG5.out) (setCell_grown _ _ _ _)) (((trAt.kept HT5.out (setCell_grown w5 b 5 _) (fun r e => by have := Option.some.inj e; omega)).mono (by rw [HRBE.out]; omega) (Nat.le_trans hsz5 (setCell_grown _ _ _ _).size)))
    | false =>
      rw [e40] at HS40
      have HRX := Lib.hid (show R = if isT L i [45] then (enterT L k i).bind fun _ j => (P j).bind fun x j => .ok (.mk 7 0 [] [x] ps) j
        else (nameT L i).bind fun s j => if isT L j [40] then (listT L k E j).bind fun kids j => .ok (.mk 11 0 s.1 kids s.2) j else .ok (.mk 1 0 s.1 [] s.2) j from HRX.out.trans (by rw [e40, if_neg (by simp)]))
      clear e40
      cases e45 : isT L i [45] with
      | true =>
        rw [e45] at HS45
        have HRY := Lib.hid (show R = (enterT L k i).bind fun _ j => (P j).bind fun x j => .ok (.mk 7 0 [] [x] ps) j from HRX.out.trans (by rw [e45, if_pos rfl]))
        clear e45 HRX HNM
        go_upto_region 14 with (go_at_call 95; refine HS40.out.mono ?_; rintro e w3 ⟨rfl, rfl⟩)
        go_upto_region 15 with (go_at_call 95; refine HS45.out.mono ?_; rintro e w3 ⟨rfl, rfl⟩)
        go_wp2_with fail
        refine HEN.out.mono ?_
        intro e w3 h3
        rcases PGot.cases h3 with ⟨a, d, hr, he, hg⟩ | ⟨x, j, v, hr, rfl, hr3, hg3, rfl⟩
        · subst he
          go_wp2_with fail
          exact ⟨rfl, PGot.bad (HRY.out.trans (by rw [hr]; rfl)) ⟨rfl, grown_one HG2.out hg⟩⟩
        · have HRZ := Lib.hid (show R = (P j).bind fun x j => .ok (.mk 7 0 [] [x] ps) j from HRY.out.trans (by rw [hr]; rfl))
          have HP3 : Hid (∀ W i, RdAt W b L i (lv + 1) → Ext wz W → Calls Tryz.prog 164 #[.pointer (some ⟨b, 0, none⟩)] W (PGot W b L (lv + 1) (PTr W) (P i))) := Lib.hid (hP (enter_ok.mp hr).1)
          have HR3 := Lib.hid hr3; have HG3 := Lib.hid hg3
          obtain ⟨d3, -, p3, -, hs3⟩ := HKEEP.out w3 hg3
          clear hr hr3 hg3 h3 HRY HEN HS40 HS45 d0 t0 t1 t2
          go_upto_region 16 with fail
          refine wp_region_halt (fun c w'' => PGot w b L lv (PTr w) R (.panicked c) w'') ?_ ?_
          · intro c a w'' hd hR
            go_wp2_with fail
            exact ⟨hd, hR⟩
          go_region_held (fun w' => w'.cell? ⟨rb, 0, none⟩ = some (.pointer (some ⟨b, 0, none⟩)) ∧ w'.cell? ⟨rb + 1, 1, none⟩ = some (.int .i64 ps)) (first | exact ⟨d3, p3⟩ | exact ⟨d4, p4⟩ | exact ⟨(Ext.alloc _ _).cell d4, (Ext.alloc _ _).cell p4⟩ | exact ⟨(Ext.alloc _ _).cell ((Ext.alloc _ _).cell d4), (Ext.alloc _ _).cell ((Ext.alloc _ _).cell p4)⟩) ((go_at_call 164; ((with_reducible refine (HP3.out w3.drew j (HR3.out.ext (Ext.drew _)) ((ext_turn HXZ2.out HG3.out HWB.out).trans (Ext.drew _))).mono ?_)); intro e w4 h4; rcases PGot.cases h4 with ⟨a, d, hr, he, hg⟩ | ⟨x, m, v, hr, rfl, hr4, hg4, ht4⟩; (subst he; exact OrHalt.panic rfl (PGot.bad (HRZ.out.trans (by rw [hr]; rfl)) ⟨rfl, grown_one (grown_one HG2.out (grown_ext HG3.out (Ext.drew _))) hg⟩)); obtain ⟨q, rfl, -, -⟩ := trAt.ptr ht4; obtain ⟨d4, -, p4, -, hs4⟩ := HKEEP.out w4 (grown_one (grown_ext HG3.out (Ext.drew _)) hg4)))
          refine OrHalt.normal ?_
          have hgd : w2.grownBy w4 (some b) := grown_one (grown_ext HG3.out (Ext.drew _)) hg4
          generalize hw6 : (w4.alloc (.cells #[.pointer (some ⟨q, 0, none⟩)] 83)).alloc (.cells #[.int .i64 7, .int .i64 0, .string ⟨#[]⟩, .slice (some ⟨w4.heap.size, 0, none⟩) 1 1, .int .i64 ps] 152) = w6
          have e6 : Ext w4 w6 := by rw [← hw6]; exact (Ext.alloc _ _).trans (Ext.alloc _ _)
          have HND : Hid (trAt 152 83 (.mk 7 0 [] [x] ps) w3.heap.size w6.heap.size w6 (.pointer (some ⟨w4.heap.size + 1, 0, none⟩))) := Lib.hid (by
            rw [← hw6]
            exact node1 7 ps ht4 hg4.size (Nat.le_refl _))
          have HRV := Lib.hid (show R = .ok (.mk 7 0 [] [x] ps) m from HRZ.out.trans (by rw [hr]; rfl))
          have HR6 := Lib.hid (hr4.ext e6)
          have HG6 := Lib.hid (grown_ext hgd e6)
          have d6 := e6.cell d4
          generalize hq2 : w4.heap.size + 1 = q2 at *
          clear hw6 e6 hr hr4 hg4 h4 ht4 HRZ d4 p4 d3 p3 hgd HP3 hq2 hs4
          have k5 := HR6.out.lev
          have f5 := BlkOf.free HR6.out.blk 5
          go_wp2_with fail
          go_ret
          exact PGot.ok HRV.out (HR6.out.back (by omega)) (grown_one (grown_one HG2.out HG6.out) (setCell_grown _ _ _ _)) (((trAt.kept HND.out (setCell_grown w6 b 5 _) (fun r e => by have := Option.some.inj e; omega)).mono (by rw [HRBE.out]; omega) (setCell_grown _ _ _ _).size))
      | false =>
        rw [e45] at HS45
        have HRY := Lib.hid (show R = (nameT L i).bind fun s j => if isT L j [40] then (listT L k E j).bind fun kids j => .ok (.mk 11 0 s.1 kids s.2) j else .ok (.mk 1 0 s.1 [] s.2) j from HRX.out.trans (by rw [e45, if_neg (by simp)]))
        clear e45 HRX HEN
        go_upto_region 14 with (go_at_call 95; refine HS40.out.mono ?_; rintro e w3 ⟨rfl, rfl⟩)
        go_upto_region 19 with (go_at_call 95; refine HS45.out.mono ?_; rintro e w3 ⟨rfl, rfl⟩)
        go_upto_region 20 with fail
        have e3 := (Ext.alloc w2 (.cells #[.int .i64 1, .int .i64 0, .string ⟨#[]⟩, .slice none 0 0, .int .i64 0] 152)).trans (Ext.alloc (w2.alloc (.cells #[.int .i64 1, .int .i64 0, .string ⟨#[]⟩, .slice none 0 0, .int .i64 0] 152)) (.cells #[.pointer (some ⟨w2.heap.size, 0, none⟩)] 83))
        have hbn : BlkOf ((w2.alloc (.cells #[.int .i64 1, .int .i64 0, .string ⟨#[]⟩, .slice none 0 0, .int .i64 0] 152)).alloc (.cells #[.pointer (some ⟨w2.heap.size, 0, none⟩)] 83)) w2.heap.size (pcells 1 0 [] (.slice none 0 0) 0) 152 := (BlkOf.new w2 (pcells 1 0 [] (.slice none 0 0) 0) 152).ext (Ext.alloc _ _)
        have hbx := BlkOf.new (w2.alloc (.cells #[.int .i64 1, .int .i64 0, .string ⟨#[]⟩, .slice none 0 0, .int .i64 0] 152)) [.pointer (some ⟨w2.heap.size, 0, none⟩)] 83
        have hz3 : (w2.alloc (.cells #[.int .i64 1, .int .i64 0, .string ⟨#[]⟩, .slice none 0 0, .int .i64 0] 152)).heap.size = w2.heap.size + 1 := World.size_alloc _ _
        have hz4 : ((w2.alloc (.cells #[.int .i64 1, .int .i64 0, .string ⟨#[]⟩, .slice none 0 0, .int .i64 0] 152)).alloc (.cells #[.pointer (some ⟨w2.heap.size, 0, none⟩)] 83)).heap.size = w2.heap.size + 2 := by rw [World.size_alloc, hz3]
        rw [hz3] at hbx
        obtain ⟨d3, -, -, -, -⟩ := HKEEP.out _ (e3.grownBy (some b))
        clear hz3
        generalize (w2.alloc (.cells #[.int .i64 1, .int .i64 0, .string ⟨#[]⟩, .slice none 0 0, .int .i64 0] 152)).alloc (.cells #[.pointer (some ⟨w2.heap.size, 0, none⟩)] 83) = w3 at *
        have HG3 := Lib.hid (e3.grownBy (some b))
        have HR3 := Lib.hid (HR2.out.ext e3)
        have hqs := HSZ.out
        obtain ⟨q, hq⟩ : ∃ q, w2.heap.size = q := ⟨_, rfl⟩
        rw [hq] at hbn hbx hz4 hqs ⊢
        have HQ2 := Lib.hid hq
        have HBN := Lib.hid hbn; have HBX := Lib.hid hbx; have HZ4 := Lib.hid hz4
        clear e3 hbn hbx hz4 hq HNM HS40 HS45 d0 t0 t1 t2
        have d8 : w3.cell? ⟨q + 1, 0, none⟩ = some (.pointer (some ⟨q, 0, none⟩)) := HBX.out.cell 0
        have HNM : Hid (∀ W, RdAt W b L i lv → Calls Tryz.prog 53 #[.pointer (some ⟨b, 0, none⟩)] W (PGot W b L lv (fun _ v x => v = .tuple #[.string ⟨x.1.toArray⟩, .int .i64 x.2]) (nameT L i))) := Lib.hid (fun W h => sname_any h hL)
        have hqb : q ≠ b ∧ b ≠ q ∧ q + 1 ≠ b ∧ q ≠ rb ∧ rb ≠ q := by omega
        have HKC : Hid (∀ (W : World) (o : Nat) (u : Value), (W.cell? ⟨q + 1, 0, none⟩ = some (.pointer (some ⟨q, 0, none⟩)) ∧ W.cell? ⟨rb, 0, none⟩ = some (.pointer (some ⟨b, 0, none⟩))) → ((W.setCell ⟨q, o, none⟩ u).cell? ⟨q + 1, 0, none⟩ = some (.pointer (some ⟨q, 0, none⟩)) ∧ (W.setCell ⟨q, o, none⟩ u).cell? ⟨rb, 0, none⟩ = some (.pointer (some ⟨b, 0, none⟩)))) := Lib.hid (fun W o u h => ⟨(setCell_grown W q o u).cell h.1 (by simp), (setCell_grown W q o u).cell h.2 (by simp; omega)⟩)
        refine wp_region_halt (fun c w'' => PGot w b L lv (PTr w) R (.panicked c) w'') ?_ ?_
        · intro c a w'' hd hR
          go_wp2_with fail
          exact ⟨hd, hR⟩
        go_region_held (fun w' => w'.cell? ⟨q + 1, 0, none⟩ = some (.pointer (some ⟨q, 0, none⟩)) ∧ w'.cell? ⟨rb, 0, none⟩ = some (.pointer (some ⟨b, 0, none⟩))) (first | exact ⟨d8, d3⟩ | exact ⟨x4, d4⟩ | exact HKC.out _ _ _ ⟨x4, d4⟩ | exact HKC.out _ _ _ (HKC.out _ _ _ ⟨x4, d4⟩)) ((go_at_call 53; ((with_reducible refine (HNM.out w3.drew (HR3.out.ext (Ext.drew _))).mono ?_)); intro e w4 h4; rcases PGot.cases h4 with ⟨a, d, hr, he, hg⟩ | ⟨x, m, v, hr, rfl, hr4, hg4, rfl⟩; (subst he; exact OrHalt.panic rfl (PGot.bad (HRY.out.trans (by rw [hr]; rfl)) ⟨rfl, grown_one (grown_one HG2.out (grown_ext HG3.out (Ext.drew _))) hg⟩)); have hg34 : w3.grownBy w4 (some b) := (grown_one ((Ext.drew w3).grownBy _) hg4); obtain ⟨d4, -, -, -, -⟩ := HKEEP.out w4 (grown_one HG3.out hg34); have hb4 : BlkOf w4 q (pcells 1 0 [] (.slice none 0 0) 0) 152 := HBN.out.grown hg34 (by simp; omega); have x4 : w4.cell? ⟨q + 1, 0, none⟩ = some (.pointer (some ⟨q, 0, none⟩)) := hg34.cell d8 (by simp; omega); have k2 : w4.cell? ⟨q, 2, none⟩ = some (.string ⟨#[]⟩) := hb4.cell 2; have k4 : w4.cell? ⟨q, 4, none⟩ = some (.int .i64 0) := hb4.cell 4; have g2 := hb4.free 2; have g4 := hb4.free 4))
        refine OrHalt.normal ?_
        generalize hw5 : (w4.setCell ⟨q, 2, none⟩ (.string ⟨x.1.toArray⟩)).setCell ⟨q, 4, none⟩ (.int .i64 x.2) = w5
        have hg5 : w4.grownBy w5 (some q) := by rw [← hw5]; exact grown_one (setCell_grown _ _ _ _) (setCell_grown _ _ _ _)
        have hb5 : BlkOf w5 q (pcells 1 0 x.1 (.slice none 0 0) x.2) 152 := by rw [← hw5]; exact (hb4.set 2 (.string ⟨x.1.toArray⟩)).set 4 (.int .i64 x.2)
        have hr5 : RdAt w5 b L m lv := ⟨BlkOf.grown hr4.blk hg5 (by simp; omega), hr4.le⟩
        have hww5 : w.grownBy w5 (some b) := grown_new (grown_one (grown_one HG2.out HG3.out) hg34) hg5 (by rw [HRBE.out]; omega)
        have x5 : w5.cell? ⟨q + 1, 0, none⟩ = some (.pointer (some ⟨q, 0, none⟩)) := hg5.cell x4 (by simp)
        have y5 : w5.cell? ⟨rb, 0, none⟩ = some (.pointer (some ⟨b, 0, none⟩)) := hg5.cell d4 (by simp; omega)
        have hsz5 : q + 2 ≤ w5.heap.size := by have h1 := HZ4.out; have h2 := hg34.size; have h3 := hg5.size; omega
        have HRZ := Lib.hid (show R = if isT L m [40] then (listT L k E m).bind fun kids j => .ok (.mk 11 0 x.1 kids x.2) j else .ok (.mk 1 0 x.1 [] x.2) m from HRY.out.trans (by rw [hr]; rfl))
        have HB5 := Lib.hid hb5; have HR5 := Lib.hid hr5; have HG5 := Lib.hid hww5
        have HS5 := Lib.hid (sis_any hr5 [40])
        have hkb5 : w5.cell? ⟨q, 0, none⟩ = some (.int .i64 1) := hb5.cell 0
        have hfr5 := hb5.free 0
        clear hw5 hb5 hr5 hww5 hr hr4 hg4 hb4 h4 hg34 hg5 d8 d3 d4 x4 k2 k4 g2 g4 HRY HKC HNM
        obtain ⟨nm, np⟩ := x
        cases e4 : isT L m [40] with
        | false =>
          rw [e4] at HS5
          have HRV := Lib.hid (show R = .ok (.mk 1 0 nm [] np) m from HRZ.out.trans (by rw [e4, if_neg (by simp)]))
          clear e4 HRZ
          go_wp2_with (go_at_call 95; refine HS5.out.mono ?_; rintro e w6 ⟨rfl, rfl⟩)
          go_ret
          exact PGot.ok HRV.out HR5.out HG5.out ((KidsIn.nil (T := 152) (E := 83) (lo := q) w5).done (by rw [HRBE.out]; omega) (by rw [HRBE.out]; omega) HB5.out)
        | true =>
          rw [e4] at HS5
          have HRV := Lib.hid (show R = (listT L k E m).bind fun kids j => .ok (.mk 11 0 nm kids np) j from HRZ.out.trans (by rw [e4, if_pos rfl]))
          clear e4 HRZ
          go_upto_region 22 with (go_at_call 95; refine HS5.out.mono ?_; rintro e w6 ⟨rfl, rfl⟩)
          go_upto_region 23 with fail
          have HB6 := Lib.hid (show BlkOf (w5.setCell ⟨q, 0, none⟩ (.int .i64 11)) q (pcells 11 0 nm (.slice none 0 0) np) 152 from BlkOf.set HB5.out 0 (.int .i64 11))
          have hg6 := setCell_grown w5 q 0 (.int .i64 11)
          have HR6 := Lib.hid (show RdAt (w5.setCell ⟨q, 0, none⟩ (.int .i64 11)) b L m lv from ⟨BlkOf.grown HR5.out.blk hg6 (by simp; omega), HR5.out.le⟩)
          have HG6 := Lib.hid (grown_new HG5.out hg6 (by rw [HRBE.out]; omega))
          have x6 := hg6.cell x5 (by simp)
          have y6 := hg6.cell y5 (by simp; omega)
          have hsz6 := Nat.le_trans hsz5 hg6.size
          clear HB5 HR5 HG5 hg6 x5 y5 hsz5 HS5 hkb5 hfr5
          generalize w5.setCell ⟨q, 0, none⟩ (.int .i64 11) = w6 at *
          have HCI : Hid (CallInv w b q (q + 2) (q + 1) rb nm np w6 []) := Lib.hid ⟨HG6.out, x6, y6, hsz6, _, _, HB6.out, KidsIn.nil w6⟩
          have HLI := Lib.hid (slist_any (w0 := w) (lv := lv) hmE hpE 186 (.pointer (some ⟨q + 1, 0, none⟩)) (.pointer (some ⟨rb, 0, none⟩)) (fun _ _ => by kernel_rfl)
            (fun W acc => CallInv w b q (q + 2) (q + 1) rb nm np W acc) (fun W acc h => h.g)
            (fun W W' acc h hg => by
              obtain ⟨kv, vs, h1, h2⟩ := h.node
              exact ⟨grown_one h.g hg, hg.cell h.cx (by simp; omega), hg.cell h.cr (by simp; omega), Nat.le_trans h.lw hg.size, kv, vs, h1.grown hg (by simp; omega), h2.kept hg (fun r e => by have := Option.some.inj e; omega)⟩)
            (fun hk0 W acc i hac hr hI => spart1_any (hE hk0) HX0.out HWB.out (by omega) (by omega) ⟨by omega, by omega⟩ (by omega) (by omega) (by rw [HRBE.out]; omega) (Nat.le_trans hac (Nat.le_trans hr.le hL)) hr hI)
            HR6.out HCI.out hL hk)
          clear HCI HB6 HG6 HR6
          go_wp2_with fail
          refine HLI.out.mono ?_
          intro e w7 h7
          rcases h7.cases with ⟨a, d, hr, he, hg⟩ | ⟨ks, m2, hr, rfl, hr7, hi7⟩
          · subst he
            go_wp2_with fail
            exact ⟨rfl, PGot.bad (HRV.out.trans (by rw [hr]; rfl)) ⟨rfl, hg⟩⟩
          · have HRU := Lib.hid (show R = .ok (.mk 11 0 nm ks np) m2 from HRV.out.trans (by rw [hr]; rfl))
            obtain ⟨kv, vs, hb7, hk7⟩ := hi7.node
            have x7 := hi7.cx
            have HG7 := Lib.hid hi7.g; have HR7 := Lib.hid hr7; have HB7 := Lib.hid hb7; have HK7 := Lib.hid hk7
            clear h7 hr hr7 hi7 hb7 hk7 HRV HLI x6 y6
            go_wp2_with fail
            go_ret
            exact PGot.ok HRU.out HR7.out HG7.out (HK7.out.done (by rw [HRBE.out]; omega) (by rw [HRBE.out]; omega) HB7.out)
end
end Go.Proofs.YtgnomhbbbcfehaaGreatDoor
