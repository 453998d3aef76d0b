/- A text's reader, the program's side: a function: contract. A set of names in a map's block; a part's names are checked: contracts. -/
import Derived.Test.YtgnomhbbbcfehaaGreatDoorSsf
import Derived.Test.YtgnomhbbbcfehaaGreatDoorSr7
import Derived.Maps.OwnSet
import Derived.StringKeys
section
namespace Go.Proofs.YtgnomhbbbcfehaaGreatDoor
open Go.RowKit Go.Att Go.Shelf
def fnAt (f : Att.Fn) (lo hi : Nat) (w : World) (v : Value) : Prop := ∃ q nv bv av, v = .pointer (some ⟨q, 0, none⟩) ∧ lo ≤ q ∧ q < hi ∧ BlkOf w q (fcells f.name nv bv f.pos av) 85 ∧ w.ownsRow lo 9 1 nv f.names.length (f.names.map fun y => strV y.1) ∧ (∀ A, nv.ownBlock = some A → A < hi) ∧ w.ownsRow lo 3 1 av f.names.length (f.names.map fun y => .int .i64 y.2) ∧ (∀ A, av.ownBlock = some A → A < hi) ∧ trAt 152 83 f.body lo hi w bv
section
variable {f : Att.Fn} {lo hi : Nat} {w w' : World} {v : Value}
theorem fnAt.kept (h : fnAt f lo hi w v) {row : Option Nat} (hg : w.grownBy w' row) (hr : ∀ r, row = some r → r < lo ∨ hi ≤ r) : fnAt f lo hi w' v := by
  obtain ⟨q, nv, bv, av, h1, h2, h3, h4, h5, h6, h7, h8, h9⟩ := h
  refine ⟨q, nv, bv, av, h1, h2, h3, h4.grown hg (fun e => by rcases hr q e.symm with e | e <;> omega), own_kept h5 hg (fun A hA e => ?_), h6, own_kept h7 hg (fun A hA e => ?_), h8, h9.kept hg hr⟩
  · have := (own_blk h5 hA).1; have := h6 A hA; rcases hr A e.symm with e | e <;> omega
  · have := (own_blk h7 hA).1; have := h8 A hA; rcases hr A e.symm with e | e <;> omega
theorem fnAt.ext (h : fnAt f lo hi w v) (hx : Ext w w') : fnAt f lo hi w' v := h.kept (hx.grownBy none) (fun r e => by cases e)
theorem fnAt.mono (h : fnAt f lo hi w v) {lo' hi' : Nat} (h1 : lo' ≤ lo) (h2 : hi ≤ hi') : fnAt f lo' hi' w v := by
  obtain ⟨q, nv, bv, av, a1, a2, a3, a4, a5, a6, a7, a8, a9⟩ := h
  exact ⟨q, nv, bv, av, a1, by omega, by omega, a4, own_from a5 h1, fun A hA => by have := a6 A hA; omega, own_from a7 h1, fun A hA => by have := a8 A hA; omega, a9.mono h1 h2⟩
theorem fnAt.ptr (h : fnAt f lo hi w v) : ∃ q, v = .pointer (some ⟨q, 0, none⟩) ∧ lo ≤ q ∧ q < hi := by
  obtain ⟨q, nv, bv, av, a1, a2, a3, -⟩ := h; exact ⟨q, a1, a2, a3⟩
end
section
variable {wz w : World} {b : Nat} {L : List UInt8} {i : Nat}
set_option maxRecDepth 100000 in
set_option maxHeartbeats 8000000 in
theorem sfun_any (hL : L.length ≤ 4000) (hwb : wz.heap.size ≤ b) (herr : ErrR wz) (h : RdAt w b L i 0) (hx : Ext wz w) :
    Calls Tryz.prog 25 #[.pointer (some ⟨b, 0, none⟩)] w (PGot w b L 0 (fun w' v x => fnAt x w.heap.size w'.heap.size w' v) (funT L i)) := by
  have hblt := h.lt
  have e1 := Ext.alloc w (.cells #[.pointer (some ⟨b, 0, none⟩)] 64)
  have HRB := Lib.hid (BlkOf.new w [.pointer (some ⟨b, 0, none⟩)] 64)
  have hz : (w.alloc (.cells #[.pointer (some ⟨b, 0, none⟩)] 64)).heap.size = w.heap.size + 1 := World.size_alloc _ _
  have HR1 := Lib.hid (h.ext e1)
  have HX0 := Lib.hid (hx.trans e1); have HWB := Lib.hid hwb; have HER := Lib.hid herr
  have HG1 := Lib.hid (e1.grownBy (some b))
  have HXW := Lib.hid hx
  generalize hR : funT L i = R
  have HRR := Lib.hid (show R = (mustT L i [102, 110]).bind fun _ j => (nameT L j).bind fun s j => (listT L 64 (nameT L) j).bind fun ns j => (mustT L j [61]).bind fun _ j => ((readT L 65).2 j).bind fun b j => .ok ⟨s.1, s.2, ns, b⟩ j from hR.symm)
  clear hR h hx e1 hwb herr
  go_enter Tryz.func25, Tryz.ntmps25
  go_upto_region 1 with fail
  generalize w.alloc (.cells #[.pointer (some ⟨b, 0, none⟩)] 64) = w1 at *
  obtain ⟨rb, hrb⟩ : ∃ rb, w.heap.size = rb := ⟨_, rfl⟩
  rw [hrb] at HRB hblt hz ⊢
  have HRBE := Lib.hid hrb; have HSZ := Lib.hid hz
  clear hrb hz
  have d0 : w1.cell? ⟨rb, 0, none⟩ = some (.pointer (some ⟨b, 0, none⟩)) := HRB.out.cell 0
  go_wp2_with fail
  refine (smust_any HR1.out hL [102, 110]).mono ?_
  intro e w2 h2
  rcases PGot.cases h2 with ⟨a, d, hr, he, hg⟩ | ⟨x, j, v, hr, rfl, hr2, hg2, rfl⟩
  · subst he
    go_wp2_with fail
    exact ⟨rfl, PGot.bad (HRR.out.trans (by rw [hr] <;> rfl)) ⟨rfl, grown_one HG1.out hg⟩⟩
  have HRS := Lib.hid (show R = (nameT L j).bind fun s j => (listT L 64 (nameT L) j).bind fun ns j => (mustT L j [61]).bind fun _ j => ((readT L 65).2 j).bind fun b j => .ok ⟨s.1, s.2, ns, b⟩ j from HRR.out.trans (by rw [hr] <;> rfl))
  have HR2 := Lib.hid hr2
  have HG2 := Lib.hid (grown_one HG1.out hg2)
  have HRB2 := Lib.hid (HRB.out.grown hg2 (by simp; omega))
  have hsz2 : rb + 1 ≤ w2.heap.size := by have := hg2.size; have := HSZ.out; omega
  clear h2 hr hr2 hg2 d0 HRR HR1 HG1 HRB HSZ
  go_upto_region 3 with fail
  have e3 := (Ext.alloc w2 (.cells #[.string ⟨#[]⟩, .slice none 0 0, .pointer none, .int .i64 0, .slice none 0 0] 85)).trans (Ext.alloc (w2.alloc (.cells #[.string ⟨#[]⟩, .slice none 0 0, .pointer none, .int .i64 0, .slice none 0 0] 85)) (.cells #[.pointer (some ⟨w2.heap.size, 0, none⟩)] 72))
  have hbn : BlkOf ((w2.alloc (.cells #[.string ⟨#[]⟩, .slice none 0 0, .pointer none, .int .i64 0, .slice none 0 0] 85)).alloc (.cells #[.pointer (some ⟨w2.heap.size, 0, none⟩)] 72)) w2.heap.size (fcells [] (.slice none 0 0) (.pointer none) 0 (.slice none 0 0)) 85 := (BlkOf.new w2 (fcells [] (.slice none 0 0) (.pointer none) 0 (.slice none 0 0)) 85).ext (Ext.alloc _ _)
  have hbx := BlkOf.new (w2.alloc (.cells #[.string ⟨#[]⟩, .slice none 0 0, .pointer none, .int .i64 0, .slice none 0 0] 85)) [.pointer (some ⟨w2.heap.size, 0, none⟩)] 72
  have hz3 : (w2.alloc (.cells #[.string ⟨#[]⟩, .slice none 0 0, .pointer none, .int .i64 0, .slice none 0 0] 85)).heap.size = w2.heap.size + 1 := World.size_alloc _ _
  have hz4 : ((w2.alloc (.cells #[.string ⟨#[]⟩, .slice none 0 0, .pointer none, .int .i64 0, .slice none 0 0] 85)).alloc (.cells #[.pointer (some ⟨w2.heap.size, 0, none⟩)] 72)).heap.size = w2.heap.size + 2 := by rw [World.size_alloc, hz3]
  rw [hz3] at hbx
  clear hz3
  have d3 : ((w2.alloc (.cells #[.string ⟨#[]⟩, .slice none 0 0, .pointer none, .int .i64 0, .slice none 0 0] 85)).alloc (.cells #[.pointer (some ⟨w2.heap.size, 0, none⟩)] 72)).cell? ⟨rb, 0, none⟩ = some (.pointer (some ⟨b, 0, none⟩)) := e3.cell (HRB2.out.cell 0)
  generalize (w2.alloc (.cells #[.string ⟨#[]⟩, .slice none 0 0, .pointer none, .int .i64 0, .slice none 0 0] 85)).alloc (.cells #[.pointer (some ⟨w2.heap.size, 0, none⟩)] 72) = w3 at *
  have HG3 := Lib.hid (grown_ext HG2.out e3)
  have HR3 := Lib.hid (HR2.out.ext e3)
  obtain ⟨q, hq⟩ : ∃ q, w2.heap.size = q := ⟨_, rfl⟩
  rw [hq] at hbn hbx hz4 hsz2 ⊢
  have HBN := Lib.hid hbn; have HZ4 := Lib.hid hz4
  have d8 : w3.cell? ⟨q + 1, 0, none⟩ = some (.pointer (some ⟨q, 0, none⟩)) := hbx.cell 0
  have hrq : rb < q := hsz2
  clear e3 hbn hbx hz4 hq HRB2 HR2 HG2
  have HNM : Hid (∀ W, RdAt W b L j 0 → Calls Tryz.prog 53 #[.pointer (some ⟨b, 0, none⟩)] W (PGot W b L 0 (fun _ v x => v = .tuple #[.string ⟨x.1.toArray⟩, .int .i64 x.2]) (nameT L j))) := Lib.hid (fun W h => sname_any h hL)
  have hqb : q ≠ b ∧ b ≠ q ∧ q + 1 ≠ b ∧ q ≠ rb ∧ rb ≠ q ∧ rb ≠ b := by omega
  have HKC : Hid (∀ (W : World) (o : Nat) (u : Value), (W.cell? ⟨q + 1, 0, none⟩ = some (.pointer (some ⟨q, 0, none⟩)) ∧ W.cell? ⟨rb, 0, none⟩ = some (.pointer (some ⟨b, 0, none⟩))) → ((W.setCell ⟨q, o, none⟩ u).cell? ⟨q + 1, 0, none⟩ = some (.pointer (some ⟨q, 0, none⟩)) ∧ (W.setCell ⟨q, o, none⟩ u).cell? ⟨rb, 0, none⟩ = some (.pointer (some ⟨b, 0, none⟩)))) := Lib.hid (fun W o u h => ⟨(setCell_grown W q o u).cell h.1 (by simp), (setCell_grown W q o u).cell h.2 (by simp; omega)⟩)
  refine wp_region_halt (fun c w'' => PGot w b L 0 (fun w' v x => fnAt x w.heap.size w'.heap.size w' v) R (.panicked c) w'') ?_ ?_
  · intro c a w'' hd hR
    go_wp2_with fail
    exact ⟨hd, hR⟩
  go_region_held (fun w' => w'.cell? ⟨q + 1, 0, none⟩ = some (.pointer (some ⟨q, 0, none⟩)) ∧ w'.cell? ⟨rb, 0, none⟩ = some (.pointer (some ⟨b, 0, none⟩))) (first | exact ⟨d8, d3⟩ | exact ⟨x4, d4⟩ | exact HKC.out _ _ _ ⟨x4, d4⟩ | exact HKC.out _ _ _ (HKC.out _ _ _ ⟨x4, d4⟩)) ((go_at_call 53; ((with_reducible refine (HNM.out w3.drew (HR3.out.ext (Ext.drew _))).mono ?_)); intro e w4 h4; rcases PGot.cases h4 with ⟨a, d, hr, he, hg⟩ | ⟨x, m, v, hr, rfl, hr4, hg4, rfl⟩; (subst he; exact OrHalt.panic rfl (PGot.bad (HRS.out.trans (by rw [hr] <;> rfl)) ⟨rfl, grown_one (grown_ext HG3.out (Ext.drew _)) hg⟩)); have hg34 : w3.grownBy w4 (some b) := (grown_one ((Ext.drew w3).grownBy _) hg4); have d4 : w4.cell? ⟨rb, 0, none⟩ = some (.pointer (some ⟨b, 0, none⟩)) := hg34.cell d3 (by simp; omega); have hb4 : BlkOf w4 q (fcells [] (.slice none 0 0) (.pointer none) 0 (.slice none 0 0)) 85 := HBN.out.grown hg34 (by simp; omega); have x4 : w4.cell? ⟨q + 1, 0, none⟩ = some (.pointer (some ⟨q, 0, none⟩)) := hg34.cell d8 (by simp; omega); have k2 : w4.cell? ⟨q, 0, none⟩ = some (.string ⟨#[]⟩) := hb4.cell 0; have k4 : w4.cell? ⟨q, 3, none⟩ = some (.int .i64 0) := hb4.cell 3; have g2 := hb4.free 0; have g4 := hb4.free 3))
  refine OrHalt.normal ?_
  generalize hw5 : (w4.setCell ⟨q, 0, none⟩ (.string ⟨x.1.toArray⟩)).setCell ⟨q, 3, none⟩ (.int .i64 x.2) = w5
  have hg5 : w4.grownBy w5 (some q) := by rw [← hw5]; exact grown_one (setCell_grown _ _ _ _) (setCell_grown _ _ _ _)
  have hb5 : BlkOf w5 q (fcells x.1 (.slice none 0 0) (.pointer none) x.2 (.slice none 0 0)) 85 := by rw [← hw5]; exact (hb4.set 0 (.string ⟨x.1.toArray⟩)).set 3 (.int .i64 x.2)
  have hr5 : RdAt w5 b L m 0 := ⟨BlkOf.grown hr4.blk hg5 (by simp; omega), hr4.le⟩
  have hww5 : w.grownBy w5 (some b) := grown_new (grown_one HG3.out hg34) hg5 (by rw [HRBE.out]; omega)
  have x5 : w5.cell? ⟨q + 1, 0, none⟩ = some (.pointer (some ⟨q, 0, none⟩)) := hg5.cell x4 (by simp)
  have y5 : w5.cell? ⟨rb, 0, none⟩ = some (.pointer (some ⟨b, 0, none⟩)) := hg5.cell d4 (by simp; omega)
  have hsz5 : q + 2 ≤ w5.heap.size := by have h1 := HZ4.out; have h2 := hg34.size; have h3 := hg5.size; omega
  have HRT := Lib.hid (show R = (listT L 64 (nameT L) m).bind fun ns j => (mustT L j [61]).bind fun _ j => ((readT L 65).2 j).bind fun b j => .ok ⟨x.1, x.2, ns, b⟩ j from HRS.out.trans (by rw [hr] <;> rfl))
  have HR5 := Lib.hid hr5
  have HCI : Hid (FunInv w b q (q + 2) (q + 1) rb x.1 x.2 w5 []) := Lib.hid ⟨hww5, x5, y5, hsz5, _, _, hb5, World.ownsRow_nil _ _ _ _, World.ownsRow_nil _ _ _ _⟩
  clear hw5 hb5 hr5 hww5 hr hr4 hg4 hb4 h4 hg34 hg5 d8 d3 d4 x4 k2 k4 g2 g4 HRS HKC HNM HBN HZ4 HR3 HG3
  obtain ⟨nm, np⟩ := x
  have HLI := Lib.hid (slist_any (w0 := w) (lv := 0) mono_name prog_name 55 (.pointer (some ⟨rb, 0, none⟩)) (.pointer (some ⟨q + 1, 0, none⟩)) (fun _ _ => by kernel_rfl)
    (fun W acc => FunInv w b q (q + 2) (q + 1) rb nm np W acc) (fun W acc h => h.g)
    (fun W W' acc h hg => by
      obtain ⟨nv, av, h1, h2, h3⟩ := h.node
      exact ⟨grown_one h.g hg, hg.cell h.cx (by simp; omega), hg.cell h.cr (by simp; omega), Nat.le_trans h.lw hg.size, nv, av, h1.grown hg (by simp; omega), own_kept h2 hg (fun A hA e => by have := (own_blk h2 hA).1; have := Option.some.inj e; omega), own_kept h3 hg (fun A hA e => by have := (own_blk h3 hA).1; have := Option.some.inj e; omega)⟩)
    (fun _ W acc i hac hr hI => sfun1_any hL (by omega) (by omega) ⟨by omega, by omega⟩ (by omega) (by omega) (by rw [HRBE.out]; omega) (Nat.le_trans hac (Nat.le_trans hr.le hL)) hr hI)
    HR5.out HCI.out hL (k := 64) rfl)
  clear HCI HR5
  go_upto_region 4 with fail
  go_wp2_with fail
  refine HLI.out.mono ?_
  intro e w7 h7
  rcases h7.cases with ⟨a, d, hr, he, hg⟩ | ⟨ns, m2, hr, rfl, hr7, hi7⟩
  · subst he
    go_wp2_with fail
    exact ⟨rfl, PGot.bad (HRT.out.trans (by rw [hr] <;> rfl)) ⟨rfl, hg⟩⟩
  have HRU := Lib.hid (show R = (mustT L m2 [61]).bind fun _ j => ((readT L 65).2 j).bind fun b j => .ok ⟨nm, np, ns, b⟩ j from HRT.out.trans (by rw [hr] <;> rfl))
  have HI7 := Lib.hid hi7; have HR7 := Lib.hid hr7
  have y7 := hi7.cr
  clear h7 hr hr7 hi7 HRT HLI x5 y5
  go_upto_region 5 with fail
  go_wp2_with fail
  refine (smust_any HR7.out hL [61]).mono ?_
  intro e w8 h8
  rcases PGot.cases h8 with ⟨a, d, hr, he, hg⟩ | ⟨x, m3, v, hr, rfl, hr8, hg8, rfl⟩
  · subst he
    go_wp2_with fail
    exact ⟨rfl, PGot.bad (HRU.out.trans (by rw [hr] <;> rfl)) ⟨rfl, grown_one HI7.out.g hg⟩⟩
  have HRV := Lib.hid (show R = ((readT L 65).2 m3).bind fun b j => .ok ⟨nm, np, ns, b⟩ j from HRU.out.trans (by rw [hr] <;> rfl))
  obtain ⟨nv, av, hb7, hn7, ha7⟩ := HI7.out.node
  have hb8 := hb7.grown hg8 (by simp; omega)
  have hn8 := own_kept hn7 hg8 (fun A hA e => by have := (own_blk hn7 hA).1; have := Option.some.inj e; omega)
  have ha8 := own_kept ha7 hg8 (fun A hA e => by have := (own_blk ha7 hA).1; have := Option.some.inj e; omega)
  have HB8 := Lib.hid hb8; have HN8 := Lib.hid hn8; have HA8 := Lib.hid ha8
  have HR8 := Lib.hid hr8
  have HG8 := Lib.hid (grown_one HI7.out.g hg8)
  have x8 := hg8.cell HI7.out.cx (by simp; omega)
  have y8 := hg8.cell HI7.out.cr (by simp; omega)
  have hsz8 := Nat.le_trans HI7.out.lw hg8.size
  clear h8 hr hr8 hg8 hb7 hn7 ha7 hb8 hn8 ha8 HI7 HR7 HRU y7 hsz5 hsz2
  have HEX : Hid (∀ W i, RdAt W b L i 0 → Ext wz W → Calls Tryz.prog 56 #[.pointer (some ⟨b, 0, none⟩)] W (PGot W b L 0 (PTr W) ((readT L 65).2 i))) := Lib.hid ((sread_any hL HWB.out HER.out 64 (lv := 0) rfl).2)
  have HXZ8 := Lib.hid (ext_turn HXW.out HG8.out HWB.out)
  go_upto_region 6 with fail
  refine wp_region_halt (fun c w'' => PGot w b L 0 (fun w' v x => fnAt x w.heap.size w'.heap.size w' v) R (.panicked c) w'') ?_ ?_
  · intro c a w'' hd hR
    go_wp2_with fail
    exact ⟨hd, hR⟩
  go_region_held (fun w' => w'.cell? ⟨q + 1, 0, none⟩ = some (.pointer (some ⟨q, 0, none⟩)) ∧ w'.cell? ⟨rb, 0, none⟩ = some (.pointer (some ⟨b, 0, none⟩))) (first | exact ⟨x8, y8⟩ | exact ⟨x9, y9⟩ | exact ⟨(setCell_grown _ _ _ _).cell x9 (by simp), (setCell_grown _ _ _ _).cell y9 (by simp; omega)⟩) ((go_at_call 56; ((with_reducible refine (HEX.out w8.drew m3 (HR8.out.ext (Ext.drew _)) (HXZ8.out.trans (Ext.drew _))).mono ?_)); intro e w9 h9; rcases PGot.cases h9 with ⟨a, d, hr, he, hg⟩ | ⟨x, m4, v, hr, rfl, hr9, hg9, ht9⟩; (subst he; exact OrHalt.panic rfl (PGot.bad (HRV.out.trans (by rw [hr] <;> rfl)) ⟨rfl, grown_one (grown_ext HG8.out (Ext.drew _)) hg⟩)); obtain ⟨q9, rfl, -, -⟩ := trAt.ptr ht9; have hg89 : w8.grownBy w9 (some b) := (grown_one ((Ext.drew w8).grownBy _) hg9); have y9 : w9.cell? ⟨rb, 0, none⟩ = some (.pointer (some ⟨b, 0, none⟩)) := hg89.cell y8 (by simp; omega); have hb9 := HB8.out.grown hg89 (by simp; omega); have x9 : w9.cell? ⟨q + 1, 0, none⟩ = some (.pointer (some ⟨q, 0, none⟩)) := hg89.cell x8 (by simp; omega); have k2 : w9.cell? ⟨q, 2, none⟩ = some (.pointer none) := hb9.cell 2; have g2 : w9.frozen? ⟨q, 2, none⟩ = false := hb9.free 2))
  refine OrHalt.normal ?_
  have hg10 := setCell_grown w9 q 2 (.pointer (some ⟨q9, 0, none⟩))
  have hb10 : BlkOf (w9.setCell ⟨q, 2, none⟩ (.pointer (some ⟨q9, 0, none⟩))) q (fcells nm nv (.pointer (some ⟨q9, 0, none⟩)) np av) 85 := hb9.set 2 (.pointer (some ⟨q9, 0, none⟩))
  have hr10 : RdAt (w9.setCell ⟨q, 2, none⟩ (.pointer (some ⟨q9, 0, none⟩))) b L m4 0 := ⟨BlkOf.grown hr9.blk hg10 (by simp; omega), hr9.le⟩
  have hk : ∀ {v : Value} {e n : Nat} {xs : List Value}, w8.ownsRow (q + 2) e 1 v n xs → (w9.setCell ⟨q, 2, none⟩ (.pointer (some ⟨q9, 0, none⟩))).ownsRow (q + 2) e 1 v n xs := fun ho =>
    own_kept (own_kept ho hg89 (fun A hA e => by have := (own_blk ho hA).1; have := Option.some.inj e; omega)) hg10 (fun A hA e => by have := (own_blk ho hA).1; have := Option.some.inj e; omega)
  have hn10 := hk HN8.out
  have ha10 := hk HA8.out
  have ht10 := (ht9.kept hg10 (fun r e => by have := Option.some.inj e; subst this; left; exact Nat.lt_of_lt_of_le (by omega) hsz8)).mono (lo' := rb) (hi' := (w9.setCell ⟨q, 2, none⟩ (.pointer (some ⟨q9, 0, none⟩))).heap.size) (Nat.le_trans (by omega) hsz8) hg10.size
  have x10 := hg10.cell x9 (by simp)
  have HG10 := Lib.hid (grown_new (grown_one HG8.out hg89) hg10 (by rw [HRBE.out]; omega))
  have HRW := Lib.hid (show R = .ok ⟨nm, np, ns, x⟩ m4 from HRV.out.trans (by rw [hr] <;> rfl))
  have HB10 := Lib.hid hb10; have HR10 := Lib.hid hr10; have HN10 := Lib.hid hn10; have HA10 := Lib.hid ha10; have HT10 := Lib.hid ht10
  clear h9 hr hr9 hg9 ht9 hg89 hb9 x9 y9 k2 g2 hg10 hb10 hr10 hk hn10 ha10 ht10 HRV HEX HN8 HA8 HB8 HR8 HG8 x8 y8 HXZ8
  generalize w9.setCell ⟨q, 2, none⟩ (.pointer (some ⟨q9, 0, none⟩)) = w10 at *
  go_wp2_with fail
  go_ret
  exact PGot.ok HRW.out HR10.out HG10.out ⟨q, nv, _, av, rfl, by rw [HRBE.out]; omega, HB10.out.lt, HB10.out, own_from HN10.out (by rw [HRBE.out]; omega), fun A hA => (own_blk HN10.out hA).2, own_from HA10.out (by rw [HRBE.out]; omega), fun A hA => (own_blk HA10.out hA).2, by rw [HRBE.out]; exact HT10.out⟩
end
end Go.Proofs.YtgnomhbbbcfehaaGreatDoor
end
section
namespace Go.Att
open Go.Maps Go.RowKit
theorem lit_nm {k k' : List UInt8} (h : k' ≠ k) : (Lit.string k' : Lit) ≠ .string k := fun e => h (by injection e)
structure SetN {H : Type} (D : DataW H) (S : List UInt8 → Bool) : Prop where
  isMap : IsMap D
  yes : ∀ k, S k = true → ∀ z : DataW H, D.atKey (.string k) z = .lit (.bool true)
  no : ∀ k, S k = false → ∀ z : DataW H, D.atKey (.string k) z = z
theorem SetN.nil {H : Type} : SetN (.map [] : DataW H) (fun _ => false) := ⟨isMap_empty, fun _ h => (nomatch h), fun _ _ _ => rfl⟩
theorem SetN.put {H : Type} {D : DataW H} {S : List UInt8 → Bool} (h : SetN D S) {k : List UInt8} (hk : WideAt.IsKeyLit (Lit.string k)) : SetN (D.put (.string k) (.lit (.bool true))) (fun j => S j || decide (j = k)) := by
  refine ⟨h.isMap.put _ _, fun j hj z => ?_, fun j hj z => ?_⟩
  · by_cases e : j = k
    · subst e; exact atKey_put_same h.isMap hk _ _
    · rw [atKey_put_other (lit_nm e)]
      exact h.yes j (by simpa [e] using hj) z
  · simp only [Bool.or_eq_false_iff, decide_eq_false_iff_not] at hj
    rw [atKey_put_other (lit_nm hj.2)]
    exact h.no j hj.1 z
theorem SetN.del {H : Type} {D : DataW H} {S : List UInt8 → Bool} (h : SetN D S) (k : List UInt8) : SetN (D.del (.string k)) (fun j => S j && !decide (j = k)) := by
  refine ⟨h.isMap.del _, fun j hj z => ?_, fun j hj z => ?_⟩
  · simp only [Bool.and_eq_true, Bool.not_eq_true', decide_eq_false_iff_not] at hj
    rw [atKey_del_other (lit_nm hj.2)]
    exact h.yes j hj.1 z
  · by_cases e : j = k
    · subst e; exact atKey_del_same z
    · rw [atKey_del_other (lit_nm e)]
      exact h.no j (by simpa [e] using hj) z
theorem SetN.congr {H : Type} {D : DataW H} {S S' : List UInt8 → Bool} (h : SetN D S) (e : ∀ k, S k = S' k) : SetN D S' := by rw [← funext e]; exact h
def Tns (P : Program) (K B : TypeId) (w : World) (mb : Nat) (n : Int) (S : List UInt8 → Bool) : Prop := ∃ (c : Nat) (D : DataW Unit), (c : Int) ≤ n ∧ w.ownsMap P K (plainElem P B) mb c D ∧ SetN D S
theorem nm_key {P : Program} {K : TypeId} (hk : P.underlying K = some .string) {s : List UInt8} (hs : s.length ≤ 4000) : keyOf P K (strV s) = some (.string s) := by
  have := WideMaps.keyOf_string_mk (P := P) hk (s := ⟨s.toArray⟩) (by show s.toArray.size ≤ maxLen; unfold maxLen; simp; omega)
  simpa using this
section
variable {P : Program} {K B T : TypeId} {w w' : World} {mb : Nat} {n : Int} {S : List UInt8 → Bool}
theorem Tns.lt (h : Tns P K B w mb n S) : mb < w.heap.size := by obtain ⟨c, D, _, h2, _⟩ := h; exact h2.lt
theorem Tns.kept (h : Tns P K B w mb n S) {row : Option Nat} (hg : w.grownBy w' row) (hne : some mb ≠ row) : Tns P K B w' mb n S := by
  obtain ⟨c, D, h1, h2, h3⟩ := h; exact ⟨c, D, h1, h2.kept hg hne, h3⟩
theorem Tns.mono (h : Tns P K B w mb n S) {m : Int} (hm : n ≤ m) : Tns P K B w mb m S := by
  obtain ⟨c, D, h1, h2, h3⟩ := h; exact ⟨c, D, Int.le_trans h1 hm, h2, h3⟩
theorem Tns.made (w : World) : Tns P K B (w.alloc (.map #[] 0)) w.heap.size 0 (fun _ => false) := ⟨0, .map [], Int.le_refl _, World.ownsMap_made _ _ _ _, SetN.nil⟩
theorem Tns.ext (h : Tns P K B w mb n S) (hx : Ext w w') : Tns P K B w' mb n S := h.kept (hx.grownBy none) (by simp)
theorem Tns.congr (h : Tns P K B w mb n S) {S' : List UInt8 → Bool} (e : ∀ k, S k = S' k) : Tns P K B w mb n S' := by rw [← funext e]; exact h
theorem plainElem_boolN {P : Program} {e : TypeId} (he : P.underlying e = some .bool) {v : Value} {H : Type} {x : Bool} {ps : List MemPlace} (h : plainElem (H := H) P e v = some (.lit (.bool x), ps)) : v = .bool x := by
  unfold plainElem at h
  rw [he] at h
  cases v <;> simp at h
  rw [h.1]
variable (hk : P.underlying K = some .string) (hb : P.underlying B = some .bool) (ht : P.underlying T = some (.map K B))
include hk hb ht
theorem Tns.look (hz : ∀ w, (zeroValue B).run P w = .ok (.bool false) w) (h : Tns P K B w mb n S) {s : List UInt8} (hs : s.length ≤ 4000) : (Instr.lookup T (.map (some mb)) (.string ⟨s.toArray⟩) false).run P w = .ok (.bool (S s)) w := by
  obtain ⟨c, D, _, h2, h3⟩ := h
  obtain ⟨v, ps, hr, hv⟩ := h2.lookup (string_keyed hk) ht (hz w) (plainElem_bool hb false) (nm_key hk hs)
  have e : D.atKey (.string s) (.lit (.bool false)) = .lit (.bool (S s)) := by
    cases hs : S s with
    | true => exact h3.yes s hs _
    | false => exact h3.no s hs _
  rw [e] at hv
  rw [hr, plainElem_boolN hb hv]
theorem Tns.add (h : Tns P K B w mb n S) (hn : n < 9223372036854775807) {s : List UInt8} (hs : s.length ≤ 4000) :
    ∃ w', (Instr.mapUpdate T (.map (some mb)) (.string ⟨s.toArray⟩) (.bool true)).run P w = .ok () w' ∧ Tns P K B w' mb (n + 1) (fun j => S j || decide (j = s)) ∧ w.grownBy w' (some mb) := by
  obtain ⟨c, D, hc, ho, hd⟩ := h
  obtain ⟨w', hr, ho', hg⟩ := ho.update (string_keyed hk) ht (by unfold maxLen; omega) (nm_key hk hs) (plainElem_bool hb true)
  exact ⟨w', hr, ⟨c + 1, _, by omega, ho', hd.put trivial⟩, hg⟩
theorem Tns.drop (h : Tns P K B w mb n S) {s : List UInt8} (hs : s.length ≤ 4000) (ty : TypeId) :
    ∃ w', (Builtin.delete_ #[T, K] ty #[.map (some mb), .string ⟨s.toArray⟩]).run P w = .ok (.tuple #[]) w' ∧ Tns P K B w' mb n (fun j => S j && !decide (j = s)) ∧ w.grownBy w' (some mb) := by
  have _ := hb
  obtain ⟨c, D, hc, ho, hd⟩ := h
  obtain ⟨w', hr, ho', hg⟩ := ho.drop (string_keyed hk) ht (nm_key hk hs) ty
  exact ⟨w', hr, ⟨c, _, hc, ho', hd.del s⟩, hg.grown⟩
end
end Go.Att
end
