/- PledgeOpens: what shows any table at any point: the law's walk: for every input it returns true and leaves all that was there as it was. -/
import Derived.Test.YtfepefbehgbjpaaGreatDoorZx13
import Derived.Test.YtfepefbehgbjpaaGreatDoorNv
import Derived.Test.YtfepefbehgbjpaaGreatDoorNs
import Derived.Test.YtfepefbehgbjpaaGreatDoorZx17
import Derived.Test.YtfepefbehgbjpaaGreatDoorOj
import Derived.Test.YtfepefbehgbjpaaGreatDoorOl
import Derived.Test.YtfepefbehgbjpaaGreatDoorZx22
import Derived.Test.YtfepefbehgbjpaaGreatDoorOq
import Derived.Test.YtfepefbehgbjpaaGreatDoorZx6
namespace Go.Att
open Go.RowKit
theorem pldR_turn {B b : Nat} {W : World} {r0 r1 r2 r3 r4 r5 : Value} {o : Pld} (h : PldAt W r0 r1 r2 r3 r4 r5 o) (hn : ∀ u, u = r0 ∨ u = r1 ∨ u = r2 ∨ u = r3 → ∀ q, u.ownBlock = some q → B ≤ q) (h4 : RwsN B W r4 o.rows) (h5 : RwsN B W r5 o.nodes) (hb : b < B) : ∃ R4 R5, ∀ W', W.grownBy W' (some b) → PldR W' r0 r1 r2 r3 r4 r5 o R4 R5 := by
  obtain ⟨R4, a1, a2, a3⟩ := h4
  obtain ⟨R5, c1, c2, c3⟩ := h5
  have k : ∀ {W' : World} {u : Value} {l : List Int}, W.grownBy W' (some b) → (u = r0 ∨ u = r1 ∨ u = r2 ∨ u = r3) → Ints W u l → Ints W' u l := fun hg hu hi => hi.grown hg (fun q hq e => by have := hn _ hu q hq; have := Option.some.inj e; omega)
  refine ⟨R4, R5, fun W' hg => ⟨k hg (.inl rfl) h.root, k hg (.inr (.inl rfl)) h.mixed, k hg (.inr (.inr (.inl rfl))) h.point, k hg (.inr (.inr (.inr rfl))) h.places, ?_, ?_⟩⟩
  · exact ⟨a1.sl.grown hg (fun q hq e => by have := a2 q hq; have := Option.some.inj e; omega), fun i hi => (a1.row i hi).grown hg (fun q hq e => by have := a3 i hi q hq; have := Option.some.inj e; omega)⟩
  · exact ⟨c1.sl.grown hg (fun q hq e => by have := c2 q hq; have := Option.some.inj e; omega), fun i hi => (c1.row i hi).grown hg (fun q hq e => by have := c3 i hi q hq; have := Option.some.inj e; omega)⟩
theorem chp_keep2 {W W' w0 : World} {b c : Nat} {s : Value} {D : List Int} (h : ChP W b s D) (hd : DigNew w0 W b) (hg : W.grownBy W' (some c)) (hbc : b ≠ c) (hc : c < w0.heap.size) : ChP W' b s D := by
  obtain ⟨v, h1, h2⟩ := h.c1
  have hb := World.block_lt_of_cell? W _ h.c0
  have e := hg.block b hb (fun e => hbc (Option.some.inj e))
  refine ⟨by rw [World.cell?_of_block (a := ⟨b, 0, none⟩) e]; exact h.c0, ⟨v, by rw [World.cell?_of_block (a := ⟨b, 1, none⟩) e]; exact h1, h2.grown hg (fun q hq e => ?_)⟩, by rw [World.frozen?_of_block (a := ⟨b, 1, none⟩) e]; exact h.f1⟩
  have h3 := hd v h1 q hq
  have := Option.some.inj e
  omega
end Go.Att
namespace Go.Proofs.YtfepefbehgbjpaaGreatDoor
open Go.RowKit Go.Att
section
set_option maxRecDepth 100000 in
set_option maxHeartbeats 4000000 in
theorem pledgeOpens_bad (p n sh : Int) (vs vt va : Value) (asked : Int) (w : World) (h : ¬ okT p n sh) (hg : Hnd w) :
    Calls Tryz.prog 3 #[.int .i64 p, .int .i64 n, .int .i64 sh, vs, vt, va, .int .i64 asked] w fun e w' => e = .returned (.bool true) ∧ Ext w w' := by
  have H := Lib.hid h; have HG := Lib.hid hg; clear h hg
  go_enter Tryz.func3, Tryz.ntmps3
  go_wp2_with (go_at_call 4; refine (things_bad _ _ _ _ H.out HG.out).mono ?_; rintro e w' ⟨v, rfl, hx, rfl⟩)
  go_ret
  exact ⟨rfl, hx⟩
set_option maxRecDepth 100000 in
set_option maxHeartbeats 8000000 in
theorem pledgeOpens_ok (p n sh : Int) (vs vt va : Value) (asked : Int) (seed t at_ : List Int) (w : World) (h : okT p n sh) (hg : Hnd w) (hs : Ints w vs seed) (hsl : seed.length ≤ 1048576) (hvt : Ints w vt t) (ha : Ints w va at_) :
    Calls Tryz.prog 3 #[.int .i64 p, .int .i64 n, .int .i64 sh, vs, vt, va, .int .i64 asked] w fun e w' => e = .returned (.bool true) ∧ Ext w w' := by
  have H := Lib.hid h; have HG := Lib.hid hg; have HSD := Lib.hid hs; have HA := Lib.hid ha; have HVT := Lib.hid hvt
  have hp2 : p ≤ 2147483647 := h.1.2.2
  have h23 : 23 ≤ p := h.2.1
  obtain ⟨htw, hdv, -⟩ := domErr_ok h.2.2
  obtain ⟨K, hK, hnK⟩ := twoB_pow htw
  have hn12 := twoB_bd htw
  have hsh : 0 ≤ fof p sh ∧ fof p sh < p := ⟨Int.emod_nonneg _ (by omega), Int.emod_lt_of_pos _ (by omega)⟩
  have HSH := Lib.hid hsh
  have HDE := Lib.hid h.2.2
  have HDV := Lib.hid hdv; have HNK := Lib.hid hnK; have HK := Lib.hid hK
  have hal := ha.run_len (P := Tryz.prog) slInts
  have hall := ha.len
  obtain ⟨nn, rfl⟩ : ∃ m : Nat, n = (m : Int) := ⟨n.toNat, by omega⟩
  clear h hg hs ha hvt htw hdv hsh hnK hK
  go_enter Tryz.func3, Tryz.ntmps3
  go_upto_region 4 with (go_at_call 4; refine (things_ok _ _ _ _ H.out HG.out).mono ?_; rintro e w1 ⟨v, rfl, hx, s, f, g, d, rfl, hs, hf, hd⟩; obtain ⟨bd, rfl⟩ := hd.ptr; obtain ⟨bf, rfl⟩ := hf.ptr; obtain ⟨bs, k, rt, rfl, hpw, hsp⟩ := hs; obtain ⟨fs, hfs⟩ := hf.fld; have HFO := Lib.hid hf; have HD := Lib.hid hd; have HPW := Lib.hid hpw; have HSP := Lib.hid hsp; have HFS := Lib.hid hfs; have HX1 := Lib.hid hx; clear hf hd hpw hsp hx hfs)
  have HSS : Hid (Spg w1 (.pointer (some ⟨bs, 0, none⟩)) p k) := Lib.hid ⟨bs, bf, rt, g, fs, rfl, HSP.out, HFS.out, pw_le HPW.out h23 hp2⟩
  have CN := Lib.hid (fun W (hx : Ext w1 W) => cnew_any (HSS.out.ext hx) vs seed (HSD.out.ext (HX1.out.trans hx)) (by omega))
  go_upto_region 5 with (go_at_call 5; refine (CN.out _ (Ext.refl _)).mono ?_; rintro e w2 ⟨v2, rfl, hx2, rfl, hc2, hd2⟩; have HX2 := Lib.hid hx2; have HC2 := Lib.hid hc2; have HD2 := Lib.hid hd2; clear hx2 hc2 hd2)
  have CE := Lib.hid (CN.out _ HX2.out)
  have HSZ : Hid (w1.heap.size < w2.heap.size) := Lib.hid (World.block_lt_of_cell? w2 _ HC2.out.c0)
  clear CN
  go_upto_region 8 with (go_at_call 5; refine CE.out.mono ?_; rintro e w3 ⟨v3, rfl, hx3, rfl, hc3, hd3⟩; have HX3 := Lib.hid hx3; have HC3 := Lib.hid hc3; have HD3 := Lib.hid hd3; clear hx3 hc3 hd3)
  clear CE
  have HC2' := Lib.hid (HC2.out.ext HX3.out)
  have HX13 := Lib.hid (HX2.out.trans HX3.out)
  have HXW := Lib.hid (HX1.out.trans HX13.out)
  by_cases hgood : 0 ≤ varOf t.length ∧ roomB nn (varOf t.length).toNat = true ∧ (at_.length : Int) = varOf t.length ∧ 1 ≤ asked ∧ asked ≤ 64
  case neg =>
    have hbad : ∃ (b : Int) (fit : Bool), Hid (Calls Tryz.prog 6 #[.pointer (some ⟨bs, 0, none⟩), .pointer (some ⟨w1.heap.size, 0, none⟩), .pointer (some ⟨bd, 0, none⟩), vt, va, .int .i64 asked] w3 (PoBad w3 b)) ∧ Hid (∀ W, Calls Tryz.prog 9 #[.agg #[.int .i64 p, .int .i64 nn, .int .i64 (fof p sh), .int .i64 (froot p g nn)], .int .i64 (varOf t.length)] W fun e w' => e = .returned (.bool fit) ∧ Ext W w') ∧ ((fit = false ∧ b = 2) ∨ (fit = true ∧ ((at_.length : Int) != varOf t.length) = true ∧ b = 2) ∨ (fit = true ∧ ((at_.length : Int) != varOf t.length) = false ∧ ¬ (1 ≤ asked ∧ asked ≤ 64) ∧ b = 3)) := by
      by_cases h0 : varOf t.length < 0
      · exact ⟨2, false, Lib.hid (popen_no (HVT.out.ext HXW.out) h0 (HA.out.ext HXW.out) asked), Lib.hid fun W => rfits_no p nn (fof p sh) (froot p g nn) _ h0, .inl ⟨rfl, rfl⟩⟩
      have hbd := varOf_bd t.length
      have hpw := varOf_pow (n := (t.length : Int)) (by omega)
      obtain ⟨kv, hkv⟩ : ∃ kv : Nat, varOf t.length = (kv : Int) := ⟨(varOf t.length).toNat, by omega⟩
      rw [hkv, Int.toNat_natCast] at hpw
      rw [hkv, Int.toNat_natCast] at hgood
      have hlk : t.length = 2 ^ kv := by
        have e1 : ((2 ^ kv : Nat) : Int) = (2 : Int) ^ kv := by simp
        omega
      have hk12 : kv ≤ 12 := by omega
      rw [hkv]
      obtain ⟨fit, hfit⟩ : ∃ fit, roomB nn kv = fit := ⟨_, rfl⟩
      have CF := Lib.hid (fun W => by have := rfits_ok (w := W) p nn (fof p sh) (froot p g nn) kv hk12 hn12.1 hn12.2; rw [hfit] at this; exact this)
      by_cases h1 : roomB nn kv = true ∧ at_.length = kv
      · have h2 : ¬ (1 ≤ asked ∧ asked ≤ 64) := fun h => hgood ⟨by omega, h1.1, by rw [h1.2], h.1, h.2⟩
        exact ⟨3, fit, Lib.hid (popen_ask (HD.out.ext HX13.out) hn12.1 hn12.2 kv hk12 (HVT.out.ext HXW.out) hlk (HA.out.ext HXW.out) h1.1 h1.2 asked h2), CF, .inr (.inr ⟨by rw [← hfit]; exact h1.1, by rw [h1.2]; simp, h2, rfl⟩)⟩
      · refine ⟨2, fit, Lib.hid (popen_bad (HD.out.ext HX13.out) hn12.1 hn12.2 kv hk12 (HVT.out.ext HXW.out) hlk (HA.out.ext HXW.out) h1 asked), CF, ?_⟩
        cases fit with
        | false => exact .inl ⟨rfl, rfl⟩
        | true => exact .inr (.inl ⟨rfl, by rw [bne_iff_ne]; intro e; exact h1 ⟨hfit, by omega⟩, rfl⟩)
    obtain ⟨b, fit, CO, CF, hcase⟩ := hbad
    clear hgood
    go_upto_region 9 with (go_at_call 6; refine CO.out.mono ?_; rintro e w4 ⟨rfl, hx4⟩; have HX4 := Lib.hid (HXW.out.trans hx4); clear hx4)
    have HXO := Lib.hid (HX4.out.trans (Ext.alloc w4 (Obj.cells #[.slice none 0 0, .slice none 0 0, .slice none 0 0, .slice none 0 0, .slice none 0 0, .slice none 0 0] 33)))
    have HOB := Lib.hid (BlkOf.new w4 [.slice none 0 0, .slice none 0 0, .slice none 0 0, .slice none 0 0, .slice none 0 0, .slice none 0 0] 33)
    generalize w4.alloc (Obj.cells #[.slice none 0 0, .slice none 0 0, .slice none 0 0, .slice none 0 0, .slice none 0 0, .slice none 0 0] 33) = w5 at *
    generalize w4.heap.size = ob at *
    have hgn := HFO.out.gen; have hlst := HFO.out.least; have hlo := HFO.out.lo; have hhi := HFO.out.hi
    have CW := Lib.hid (r2new_any p g nn sh w5 HFS.out.pr (by omega) hp2 hgn hlst hlo hhi HDE.out)
    clear hgn hlst hlo hhi
    go_upto_region 10 with (go_at_call 7; refine CW.out.mono ?_; rintro e w6 ⟨v6, rfl, hx6, rfl⟩; have HX6 := Lib.hid hx6; clear hx6)
    have hxa := Ext.alloc w6 (Obj.cells #[.int .i64 p, .int .i64 nn, .int .i64 (fof p sh), .int .i64 (froot p g nn)] 39)
    have HBQ := Lib.hid (BlkOf.new w6 [.int .i64 p, .int .i64 nn, .int .i64 (fof p sh), .int .i64 (froot p g nn)] 39)
    generalize w6.alloc (Obj.cells #[.int .i64 p, .int .i64 nn, .int .i64 (fof p sh), .int .i64 (froot p g nn)] 39) = w7 at *
    generalize w6.heap.size = qb at *
    have HX7 := Lib.hid (HXO.out.trans (HX6.out.trans hxa))
    have HO7 := Lib.hid (HOB.out.ext (HX6.out.trans hxa))
    clear hxa CW HX6 HX4 HXO HOB CO
    have q0 : w7.cell? ⟨qb, 0, none⟩ = some (.int .i64 p) := HBQ.out.cell 0
    have q1 : w7.cell? ⟨qb, 1, none⟩ = some (.int .i64 nn) := HBQ.out.cell 1
    have q2 : w7.cell? ⟨qb, 2, none⟩ = some (.int .i64 (fof p sh)) := HBQ.out.cell 2
    have q3 : w7.cell? ⟨qb, 3, none⟩ = some (.int .i64 (froot p g nn)) := HBQ.out.cell 3
    go_upto_region 12 with (first | (go_at_call 8; refine (rvars_any vt t _ (HVT.out.ext HX7.out)).mono ?_; rintro e w' ⟨rfl, rfl⟩) | (go_at_call 9; refine (CF.out _).mono ?_; rintro e w8 ⟨rfl, hx8⟩; have HX8 := Lib.hid (HX7.out.trans hx8); have HO8 := Lib.hid (HO7.out.ext hx8); clear hx8 q0 q1 q2 q3))
    rcases hcase with ⟨rfl, rfl⟩ | ⟨rfl, hb1, rfl⟩ | ⟨rfl, hb1, hb2, rfl⟩
    · skip
      go_wp2_with (first | (go_at_call 10; refine (error_any 2 2 _ (HG.out.ext HX8.out)).mono ?_; rw [beq_self_eq_true]; rintro e w9 ⟨rfl, hx9⟩; have HX9 := Lib.hid (HX8.out.trans hx9); have n0 : w9.cell? ⟨ob, 0, none⟩ = some (.slice none 0 0) := (HO8.out.ext hx9).cell 0; have n1 : w9.cell? ⟨ob, 1, none⟩ = some (.slice none 0 0) := (HO8.out.ext hx9).cell 1; have n2 : w9.cell? ⟨ob, 2, none⟩ = some (.slice none 0 0) := (HO8.out.ext hx9).cell 2; have n3 : w9.cell? ⟨ob, 3, none⟩ = some (.slice none 0 0) := (HO8.out.ext hx9).cell 3; have n4 : w9.cell? ⟨ob, 4, none⟩ = some (.slice none 0 0) := (HO8.out.ext hx9).cell 4; have n5 : w9.cell? ⟨ob, 5, none⟩ = some (.slice none 0 0) := (HO8.out.ext hx9).cell 5; clear hx9) | (go_at_call 11; refine (spled_of (Ints.nil _) (Ints.nil _) (Ints.nil _) (Ints.nil _) (Rws.nil _) (Rws.nil _) (Ints.nil _) (Ints.nil _) (Ints.nil _) (Ints.nil _) (Rws.nil _) (Rws.nil _)).mono ?_; rintro e w10 ⟨rfl, hx10⟩))
      go_ret
      exact ⟨rfl, HX9.out.trans hx10⟩
    · skip
      go_wp2_with (first | (go_at_call 10; refine (error_any 2 2 _ (HG.out.ext HX8.out)).mono ?_; rw [beq_self_eq_true]; rintro e w9 ⟨rfl, hx9⟩; have HX9 := Lib.hid (HX8.out.trans hx9); have n0 : w9.cell? ⟨ob, 0, none⟩ = some (.slice none 0 0) := (HO8.out.ext hx9).cell 0; have n1 : w9.cell? ⟨ob, 1, none⟩ = some (.slice none 0 0) := (HO8.out.ext hx9).cell 1; have n2 : w9.cell? ⟨ob, 2, none⟩ = some (.slice none 0 0) := (HO8.out.ext hx9).cell 2; have n3 : w9.cell? ⟨ob, 3, none⟩ = some (.slice none 0 0) := (HO8.out.ext hx9).cell 3; have n4 : w9.cell? ⟨ob, 4, none⟩ = some (.slice none 0 0) := (HO8.out.ext hx9).cell 4; have n5 : w9.cell? ⟨ob, 5, none⟩ = some (.slice none 0 0) := (HO8.out.ext hx9).cell 5; clear hx9) | (go_at_call 11; refine (spled_of (Ints.nil _) (Ints.nil _) (Ints.nil _) (Ints.nil _) (Rws.nil _) (Rws.nil _) (Ints.nil _) (Ints.nil _) (Ints.nil _) (Ints.nil _) (Rws.nil _) (Rws.nil _)).mono ?_; rintro e w10 ⟨rfl, hx10⟩))
      go_ret
      exact ⟨rfl, HX9.out.trans hx10⟩
    · by_cases h1 : asked < 1
      · clear hb2
        go_wp2_with (first | (go_at_call 10; refine (error_any 3 3 _ (HG.out.ext HX8.out)).mono ?_; rw [beq_self_eq_true]; rintro e w9 ⟨rfl, hx9⟩; have HX9 := Lib.hid (HX8.out.trans hx9); have n0 : w9.cell? ⟨ob, 0, none⟩ = some (.slice none 0 0) := (HO8.out.ext hx9).cell 0; have n1 : w9.cell? ⟨ob, 1, none⟩ = some (.slice none 0 0) := (HO8.out.ext hx9).cell 1; have n2 : w9.cell? ⟨ob, 2, none⟩ = some (.slice none 0 0) := (HO8.out.ext hx9).cell 2; have n3 : w9.cell? ⟨ob, 3, none⟩ = some (.slice none 0 0) := (HO8.out.ext hx9).cell 3; have n4 : w9.cell? ⟨ob, 4, none⟩ = some (.slice none 0 0) := (HO8.out.ext hx9).cell 4; have n5 : w9.cell? ⟨ob, 5, none⟩ = some (.slice none 0 0) := (HO8.out.ext hx9).cell 5; clear hx9) | (go_at_call 11; refine (spled_of (Ints.nil _) (Ints.nil _) (Ints.nil _) (Ints.nil _) (Rws.nil _) (Rws.nil _) (Ints.nil _) (Ints.nil _) (Ints.nil _) (Ints.nil _) (Rws.nil _) (Rws.nil _)).mono ?_; rintro e w10 ⟨rfl, hx10⟩))
        go_ret
        exact ⟨rfl, HX9.out.trans hx10⟩
      · have h2 : 64 < asked := by omega
        clear hb2
        go_wp2_with (first | (go_at_call 10; refine (error_any 3 3 _ (HG.out.ext HX8.out)).mono ?_; rw [beq_self_eq_true]; rintro e w9 ⟨rfl, hx9⟩; have HX9 := Lib.hid (HX8.out.trans hx9); have n0 : w9.cell? ⟨ob, 0, none⟩ = some (.slice none 0 0) := (HO8.out.ext hx9).cell 0; have n1 : w9.cell? ⟨ob, 1, none⟩ = some (.slice none 0 0) := (HO8.out.ext hx9).cell 1; have n2 : w9.cell? ⟨ob, 2, none⟩ = some (.slice none 0 0) := (HO8.out.ext hx9).cell 2; have n3 : w9.cell? ⟨ob, 3, none⟩ = some (.slice none 0 0) := (HO8.out.ext hx9).cell 3; have n4 : w9.cell? ⟨ob, 4, none⟩ = some (.slice none 0 0) := (HO8.out.ext hx9).cell 4; have n5 : w9.cell? ⟨ob, 5, none⟩ = some (.slice none 0 0) := (HO8.out.ext hx9).cell 5; clear hx9) | (go_at_call 11; refine (spled_of (Ints.nil _) (Ints.nil _) (Ints.nil _) (Ints.nil _) (Rws.nil _) (Rws.nil _) (Ints.nil _) (Ints.nil _) (Ints.nil _) (Ints.nil _) (Rws.nil _) (Rws.nil _)).mono ?_; rintro e w10 ⟨rfl, hx10⟩))
        go_ret
        exact ⟨rfl, HX9.out.trans hx10⟩
  obtain ⟨g0v, hroom, hatv, hask1, hask2⟩ := hgood
  have hbd := varOf_bd t.length
  have hpw := varOf_pow (n := (t.length : Int)) (by omega)
  obtain ⟨kv, hkv⟩ : ∃ kv : Nat, varOf t.length = (kv : Int) := ⟨(varOf t.length).toNat, by omega⟩
  rw [hkv, Int.toNat_natCast] at hpw hroom
  rw [hkv] at hatv
  have hlk : t.length = 2 ^ kv := by
    have e1 : ((2 ^ kv : Nat) : Int) = (2 : Int) ^ kv := by simp
    omega
  have hk12 : kv ≤ 12 := by omega
  have hatk : at_.length = kv := by omega
  obtain ⟨an, rfl⟩ : ∃ m : Nat, asked = (m : Int) := ⟨asked.toNat, by omega⟩
  have HKV := Lib.hid hkv; have HLK := Lib.hid hlk; have HATK := Lib.hid hatk; have HK12 := Lib.hid hk12; have HRM := Lib.hid hroom
  have HAN := Lib.hid (show 1 ≤ an ∧ an ≤ 64 from by omega)
  have hnn : nn = 2 ^ K := by
    have h1 := HNK.out
    have e1 : ((2 ^ K : Nat) : Int) = (2 : Int) ^ K := by simp
    omega
  have HNN := Lib.hid (show 1 ≤ nn ∧ nn ≤ 65536 from by omega)
  generalize hcb1 : w1.heap.size = cb1 at *
  generalize hcb2 : w2.heap.size = cb2 at *
  have HCB1 := Lib.hid hcb1
  have HCB2 := Lib.hid hcb2
  clear hcb1 hcb2
  have CO := Lib.hid (popen_ok HSS.out (by omega) hp2 K HK.out nn hnn (rt := froot p g nn) (fun m hm => root_neg HFS.out.pr (by omega) HFO.out.gen (n := (nn : Int)) (m := m) (by rw [HNK.out, hm]) HDV.out) HD.out HFS.out kv hk12 hroom hatk hlk an HAN.out.1 HAN.out.2 HX13.out (Nat.le_of_eq HCB1.out) (HA.out.ext HX1.out) (HVT.out.ext HX1.out) HC2'.out (stepP_length _ _ _ _ _))
  have CV := Lib.hid (opn_V (p := p) (sh := fof p sh) (rt := froot p g nn) (k := k) (n := nn) (v := kv) (asked := an) (D := stepP p k 2 [] seed) (at_ := at_) (t := t) (by omega) HNN.out.1 HNN.out.2 hlk)
  have CZ := Lib.hid (opn_N (p := p) (sh := fof p sh) (rt := froot p g nn) (k := k) (n := nn) (v := kv) (asked := an) (D := stepP p k 2 [] seed) (at_ := at_) (t := t) (by omega) hlk hatk)
  have CRO := Lib.hid (fun (W0 W : World) (hb : Nat) (h0 : Ext w W0) (h1 : Ext W0 W) (h2 : W0.heap.size ≤ hb) (h3 : ChD W hb p (stepP p k 2 [] seed)) => rpopen_ok (rt := froot p g nn) h23 hp2 HPW.out HSH.out nn HNN.out.1 HNN.out.2 kv hk12 hatk hlk an HAN.out.1 HAN.out.2 h1 h2 (HA.out.ext h0) (HVT.out.ext h0) h3 (stepP_length _ _ _ _ _))
  obtain ⟨o, ho⟩ : ∃ o, opn p (fof p sh) (froot p g nn) k nn (stepP p k 2 [] seed) kv at_ an t = o := ⟨_, rfl⟩
  have HLE := Lib.hid (show PldLe o 1048576 from by rw [← ho]; exact opn_le HNN.out.1 HNN.out.2 hk12 hlk HAN.out.1 HAN.out.2)
  rw [ho] at CO CV CZ CRO
  obtain ⟨z, hz⟩ : ∃ z, plN p (kv / 2) (kv - kv / 2) at_ o = z := ⟨_, rfl⟩
  rw [hz] at CO CV CZ CRO
  have CEX := Lib.hid (fun W (hx : Ext w1 W) => by have := sExtend_ok (HFS.out.ext hx) vt va t at_ (HVT.out.ext (HX1.out.trans hx)) (HA.out.ext (HX1.out.trans hx)) kv hk12 hlk hatk; rw [← CZ.out] at this; exact this)
  have CF := Lib.hid (fun W => by have := rfits_ok (w := W) p nn (fof p sh) (froot p g nn) kv hk12 hn12.1 hn12.2; rw [hroom] at this; exact this)
  have hcond : ((at_.length : Int) != (kv : Int)) = false := by rw [hatk]; simp
  rw [hatk] at hal
  clear hz ho hlk hatk hk12 hroom g0v hatv hbd hpw hkv hnn
  go_upto_region 9 with (go_at_call 6; refine CO.out.mono ?_; rintro e w4 ⟨r0, r1, r2, r3, r4, r5, rfl, hg4, hc4, hp4, hn4, hb4, hb5⟩; have HP4 := Lib.hid hp4; have HN4 := Lib.hid hn4; have HB4 := Lib.hid hb4; have HB5 := Lib.hid hb5; have HG4 := Lib.hid hg4; have HC4 := Lib.hid hc4; clear hg4 hc4 hp4 hn4 hb4 hb5; obtain ⟨ta0, tn0, tc0, he⟩ : ∃ a n c, r0 = .slice a n c := (let ⟨x, y, h⟩ := HP4.out.root.shape; ⟨_, _, _, h⟩); subst he; obtain ⟨ta1, tn1, tc1, he⟩ : ∃ a n c, r1 = .slice a n c := (let ⟨x, y, h⟩ := HP4.out.mixed.shape; ⟨_, _, _, h⟩); subst he; obtain ⟨ta2, tn2, tc2, he⟩ : ∃ a n c, r2 = .slice a n c := (let ⟨x, y, h⟩ := HP4.out.point.shape; ⟨_, _, _, h⟩); subst he; obtain ⟨ta3, tn3, tc3, he⟩ : ∃ a n c, r3 = .slice a n c := (let ⟨x, y, h⟩ := HP4.out.places.shape; ⟨_, _, _, h⟩); subst he; obtain ⟨ta4, tn4, tc4, he⟩ : ∃ a n c, r4 = .slice a n c := (let ⟨T, h1⟩ := HP4.out.rows; let ⟨x, y, h⟩ := h1.shape; ⟨_, _, _, h⟩); subst he; obtain ⟨ta5, tn5, tc5, he⟩ : ∃ a n c, r5 = .slice a n c := (let ⟨T, h1⟩ := HP4.out.nodes; let ⟨x, y, h⟩ := h1.shape; ⟨_, _, _, h⟩); subst he)
  have HX4 := Lib.hid (show Ext w1 w4 from Below.grown HX13.out.below HG4.out HX13.out.size (fun k e => by cases e; exact Nat.le_of_eq HCB1.out))
  have HSZ3 := Lib.hid (show cb2 < w3.heap.size from World.block_lt_of_cell? w3 _ HC3.out.c0)
  have HE4 := Lib.hid (chp_keep2 HC3.out HD3.out HG4.out (by have := HSZ.out; omega) (by have := HSZ.out; have := HCB2.out; omega))
  clear CO HC3 HD3 HG4 HC2 HC2' HD2 HX2 HX3 HX13 HXW
  have HY5 := Lib.hid (Ext.alloc w4 (Obj.cells #[.slice ta0 tn0 tc0, .slice ta1 tn1 tc1, .slice ta2 tn2 tc2, .slice ta3 tn3 tc3, .slice ta4 tn4 tc4, .slice ta5 tn5 tc5] 33))
  have HOB := Lib.hid (BlkOf.new w4 [.slice ta0 tn0 tc0, .slice ta1 tn1 tc1, .slice ta2 tn2 tc2, .slice ta3 tn3 tc3, .slice ta4 tn4 tc4, .slice ta5 tn5 tc5] 33)
  generalize w4.alloc (Obj.cells #[.slice ta0 tn0 tc0, .slice ta1 tn1 tc1, .slice ta2 tn2 tc2, .slice ta3 tn3 tc3, .slice ta4 tn4 tc4, .slice ta5 tn5 tc5] 33) = w5 at *
  generalize w4.heap.size = ob at *
  generalize Value.slice ta0 tn0 tc0 = r0 at *
  generalize Value.slice ta1 tn1 tc1 = r1 at *
  generalize Value.slice ta2 tn2 tc2 = r2 at *
  generalize Value.slice ta3 tn3 tc3 = r3 at *
  generalize Value.slice ta4 tn4 tc4 = r4 at *
  generalize Value.slice ta5 tn5 tc5 = r5 at *
  have hgn := HFO.out.gen; have hlst := HFO.out.least; have hlo := HFO.out.lo; have hhi := HFO.out.hi
  have CW := Lib.hid (r2new_any p g nn sh w5 HFS.out.pr (by omega) hp2 hgn hlst hlo hhi HDE.out)
  clear hgn hlst hlo hhi
  go_upto_region 10 with (go_at_call 7; refine CW.out.mono ?_; rintro e w6 ⟨v6, rfl, hx6, rfl⟩; have HX6 := Lib.hid hx6; clear hx6)
  have hxa := Ext.alloc w6 (Obj.cells #[.int .i64 p, .int .i64 nn, .int .i64 (fof p sh), .int .i64 (froot p g nn)] 39)
  have HBQ := Lib.hid (BlkOf.new w6 [.int .i64 p, .int .i64 nn, .int .i64 (fof p sh), .int .i64 (froot p g nn)] 39)
  generalize w6.alloc (Obj.cells #[.int .i64 p, .int .i64 nn, .int .i64 (fof p sh), .int .i64 (froot p g nn)] 39) = w7 at *
  generalize w6.heap.size = qb at *
  have HY7 := Lib.hid (HY5.out.trans (HX6.out.trans hxa))
  have HO7 := Lib.hid (HOB.out.ext (HX6.out.trans hxa))
  clear hxa CW HX6 HOB HY5
  have q0 : w7.cell? ⟨qb, 0, none⟩ = some (.int .i64 p) := HBQ.out.cell 0
  have q1 : w7.cell? ⟨qb, 1, none⟩ = some (.int .i64 nn) := HBQ.out.cell 1
  have q2 : w7.cell? ⟨qb, 2, none⟩ = some (.int .i64 (fof p sh)) := HBQ.out.cell 2
  have q3 : w7.cell? ⟨qb, 3, none⟩ = some (.int .i64 (froot p g nn)) := HBQ.out.cell 3
  go_upto_region 12 with (first | (go_at_call 8; refine (rvars_any vt t _ (HVT.out.ext (HX1.out.trans (HX4.out.trans HY7.out)))).mono ?_; rw [HKV.out]; rintro e w' ⟨rfl, rfl⟩) | (go_at_call 9; refine (CF.out _).mono ?_; rintro e w8 ⟨rfl, hx8⟩; have HY8 := Lib.hid (HY7.out.trans hx8); have HO8 := Lib.hid (HO7.out.ext hx8); have HB8 := Lib.hid (HBQ.out.ext hx8); clear hx8 q0 q1 q2 q3))
  clear HO7 HBQ HY7 CF
  have HS8 := Lib.hid (HSD.out.ext (HX1.out.trans (HX4.out.trans HY8.out)))
  go_wp2_with (first | (go_at_call 10; refine (error_any 0 0 _ (HG.out.ext (HX1.out.trans (HX4.out.trans HY8.out)))).mono ?_; rw [beq_self_eq_true]; rintro e w9 ⟨rfl, hx9⟩; have HY9 := Lib.hid (HY8.out.trans hx9); have HO9 := Lib.hid (HO8.out.ext hx9); have HB9 := Lib.hid (HB8.out.ext hx9); have HS9 := Lib.hid (HS8.out.ext hx9); clear hx9) | (go_at_call 12; refine (rbegin_any p k vs seed _ h23 hp2 HPW.out HS9.out (by omega)).mono ?_; rintro e w10 ⟨v10, rfl, hx10, rfl, hc10, -⟩; have HX10 := Lib.hid hx10; have HC10 := Lib.hid hc10; have q0 : w10.cell? ⟨qb, 0, none⟩ = some (.int .i64 p) := (HB9.out.ext hx10).cell 0; have q1 : w10.cell? ⟨qb, 1, none⟩ = some (.int .i64 nn) := (HB9.out.ext hx10).cell 1; have q2 : w10.cell? ⟨qb, 2, none⟩ = some (.int .i64 (fof p sh)) := (HB9.out.ext hx10).cell 2; have q3 : w10.cell? ⟨qb, 3, none⟩ = some (.int .i64 (froot p g nn)) := (HB9.out.ext hx10).cell 3; clear hx10 hc10))
  refine (CRO.out w9 w10 w9.heap.size (HX1.out.trans (HX4.out.trans HY9.out)) HX10.out (Nat.le_refl _) HC10.out).mono ?_
  rintro e w11 ⟨s0, s1, s2, s3, s4, s5, rfl, hg11, hc11, hp11, hdn11⟩
  have HDN := Lib.hid (hdn11.mono HX10.out.size)
  clear hdn11
  have HY11 := Lib.hid (HY9.out.trans (Below.grown HX10.out.below hg11 HX10.out.size (fun k e => by cases e; exact Nat.le_refl _) : Ext w9 w11))
  have HO11 := Lib.hid (HO9.out.ext (Below.grown HX10.out.below hg11 HX10.out.size (fun k e => by cases e; exact Nat.le_refl _) : Ext w9 w11))
  have HC11 := Lib.hid hc11
  have HDN2 := Lib.hid (show ∀ v, w11.cell? ⟨w9.heap.size, 1, none⟩ = some v → ∀ q', v.ownBlock = some q' → cb2 < q' from fun v hv q' hq => by have h1 : cb2 < w4.heap.size := World.block_lt_of_cell? w4 _ HE4.out.c0; have h2 := HY9.out.size; have h3 := HDN.out v hv q' hq; omega)
  clear HDN
  generalize hhb : w9.heap.size = hb at *
  have HHB := Lib.hid (show cb2 < hb from by have h1 : cb2 < w4.heap.size := World.block_lt_of_cell? w4 _ HE4.out.c0; have h2 := HY9.out.size; omega)
  clear hhb
  have HP11 := Lib.hid hp11
  clear q0 q1 q2 q3 hg11 hc11 hp11 HX10 HC10 CRO HO9 HB9 HS9 HO8 HB8 HS8
  obtain ⟨ua0, un0, uc0, he⟩ : ∃ a n c, s0 = .slice a n c := (let ⟨x, y, h⟩ := HP11.out.root.shape; ⟨_, _, _, h⟩)
  subst he
  obtain ⟨ua1, un1, uc1, he⟩ : ∃ a n c, s1 = .slice a n c := (let ⟨x, y, h⟩ := HP11.out.mixed.shape; ⟨_, _, _, h⟩)
  subst he
  obtain ⟨ua2, un2, uc2, he⟩ : ∃ a n c, s2 = .slice a n c := (let ⟨x, y, h⟩ := HP11.out.point.shape; ⟨_, _, _, h⟩)
  subst he
  obtain ⟨ua3, un3, uc3, he⟩ : ∃ a n c, s3 = .slice a n c := (let ⟨x, y, h⟩ := HP11.out.places.shape; ⟨_, _, _, h⟩)
  subst he
  obtain ⟨ua4, un4, uc4, he⟩ : ∃ a n c, s4 = .slice a n c := (let ⟨T, h1⟩ := HP11.out.rows; let ⟨x, y, h⟩ := h1.shape; ⟨_, _, _, h⟩)
  subst he
  obtain ⟨ua5, un5, uc5, he⟩ : ∃ a n c, s5 = .slice a n c := (let ⟨T, h1⟩ := HP11.out.nodes; let ⟨x, y, h⟩ := h1.shape; ⟨_, _, _, h⟩)
  subst he
  go_upto_region 23 with (fail)
  have HYB := Lib.hid (Ext.alloc w11 (Obj.cells #[.slice ua0 un0 uc0, .slice ua1 un1 uc1, .slice ua2 un2 uc2, .slice ua3 un3 uc3, .slice ua4 un4 uc4, .slice ua5 un5 uc5] 33))
  have HW12 := Lib.hid (BlkOf.new w11 [.slice ua0 un0 uc0, .slice ua1 un1 uc1, .slice ua2 un2 uc2, .slice ua3 un3 uc3, .slice ua4 un4 uc4, .slice ua5 un5 uc5] 33)
  generalize w11.alloc (Obj.cells #[.slice ua0 un0 uc0, .slice ua1 un1 uc1, .slice ua2 un2 uc2, .slice ua3 un3 uc3, .slice ua4 un4 uc4, .slice ua5 un5 uc5] 33) = w12 at *
  generalize w11.heap.size = wb at *
  generalize Value.slice ua0 un0 uc0 = s0 at *
  generalize Value.slice ua1 un1 uc1 = s1 at *
  generalize Value.slice ua2 un2 uc2 = s2 at *
  generalize Value.slice ua3 un3 uc3 = s3 at *
  generalize Value.slice ua4 un4 uc4 = s4 at *
  generalize Value.slice ua5 un5 uc5 = s5 at *
  have HY12 := Lib.hid (HY11.out.trans HYB.out)
  have HO12 := Lib.hid (HO11.out.ext HYB.out)
  have HP12 := Lib.hid (HP11.out.ext HYB.out)
  have HC12 := Lib.hid (HC11.out.ext HYB.out)
  have HDN3 := Lib.hid (show ∀ v, w12.cell? ⟨hb, 1, none⟩ = some v → ∀ q', v.ownBlock = some q' → cb2 < q' from fun v hv => HDN2.out v (by
    obtain ⟨v2, h1, -⟩ := HC11.out.c1
    rw [HYB.out.cell h1] at hv
    rw [h1]; exact hv))
  clear HY11 HO11 HP11 HC11 HYB HDN2
  have hzz : (z != z) = false := by simp
  have n0 : w12.cell? ⟨ob, 0, none⟩ = some r0 := HO12.out.cell 0
  have n1 : w12.cell? ⟨ob, 1, none⟩ = some r1 := HO12.out.cell 1
  have n2 : w12.cell? ⟨ob, 2, none⟩ = some r2 := HO12.out.cell 2
  have n3 : w12.cell? ⟨ob, 3, none⟩ = some r3 := HO12.out.cell 3
  have n4 : w12.cell? ⟨ob, 4, none⟩ = some r4 := HO12.out.cell 4
  have n5 : w12.cell? ⟨ob, 5, none⟩ = some r5 := HO12.out.cell 5
  have e0 : w12.cell? ⟨wb, 0, none⟩ = some s0 := HW12.out.cell 0
  have e1 : w12.cell? ⟨wb, 1, none⟩ = some s1 := HW12.out.cell 1
  have e2 : w12.cell? ⟨wb, 2, none⟩ = some s2 := HW12.out.cell 2
  have e3 : w12.cell? ⟨wb, 3, none⟩ = some s3 := HW12.out.cell 3
  have e4 : w12.cell? ⟨wb, 4, none⟩ = some s4 := HW12.out.cell 4
  have e5 : w12.cell? ⟨wb, 5, none⟩ = some s5 := HW12.out.cell 5
  obtain ⟨vD, hD1, hD2⟩ := HC12.out.c1
  have HDQ := Lib.hid (HDN3.out vD hD1)
  have HD1 := Lib.hid hD1
  have HD2 := Lib.hid hD2
  clear hD1 hD2
  have HDL := Lib.hid (show (drwS p k (plD5 p k (stepP p k 2 [] seed) o at_) an).length = 4 from drwS_length p k (show (plD5 p k (stepP p k 2 [] seed) o at_).length = 4 from stepP_length _ _ _ _ _) an)
  go_upto_region 24 with (go_at_call 11; refine (spled_same (HP4.out.ext HY12.out) HP12.out).mono ?_; rintro e w13 ⟨rfl, hx13⟩; have HZ13 := Lib.hid hx13; clear hx13)
  clear n0 n1 n2 n3 n4 n5 e0 e1 e2 e3 e4 e5
  go_upto_region 25 with (go_at_call 14; refine (cdig_any (_p := p) (HC4.out.ext (HY12.out.trans HZ13.out)) (by rw [HDL.out]; omega)).mono ?_; rintro e w14 ⟨v14, rfl, hx14, hi14⟩; have HZ14 := Lib.hid (HZ13.out.trans hx14); have HI14 := Lib.hid hi14; clear hx14 hi14)
  have d1 : w14.cell? ⟨hb, 1, none⟩ = some vD := HZ14.out.cell HD1.out
  go_upto_region 26 with (go_at_call 15; refine (sints_any _ _ _ _ _ HI14.out (HD2.out.ext HZ14.out)).mono ?_; rw [decide_eq_true rfl]; rintro e w15 hrd; obtain ⟨rfl, hx15⟩ := hrd.ext; have HZ15 := Lib.hid (HZ14.out.trans hx15); clear hrd hx15 d1)
  have HX415 := Lib.hid (HY12.out.trans HZ15.out)
  have HX15 := Lib.hid (HX4.out.trans HX415.out)
  obtain ⟨R4, R5, hR⟩ := pldR_turn (HP4.out.ext HX415.out) HN4.out (HB4.out.ext HX415.out) (HB5.out.ext HX415.out) HSZ3.out
  have HR := Lib.hid hR
  clear hR
  have CK := Lib.hid (pcheck_okG HSS.out (by omega) hp2 nn HD.out HFS.out HNN.out.1 HNN.out.2 kv HK12.out HRM.out HATK.out an HAN.out.1 HAN.out.2 HX15.out (by have := HSZ.out; have := HCB1.out; omega) (HA.out.ext HX1.out) HR.out HLE.out (HE4.out.ext HX415.out) (stepP_length _ _ _ _ _))
  rw [CV.out] at CK
  have n0 : w15.cell? ⟨ob, 0, none⟩ = some r0 := (HO12.out.ext HZ15.out).cell 0
  have n1 : w15.cell? ⟨ob, 1, none⟩ = some r1 := (HO12.out.ext HZ15.out).cell 1
  have n2 : w15.cell? ⟨ob, 2, none⟩ = some r2 := (HO12.out.ext HZ15.out).cell 2
  have n3 : w15.cell? ⟨ob, 3, none⟩ = some r3 := (HO12.out.ext HZ15.out).cell 3
  have n4 : w15.cell? ⟨ob, 4, none⟩ = some r4 := (HO12.out.ext HZ15.out).cell 4
  have n5 : w15.cell? ⟨ob, 5, none⟩ = some r5 := (HO12.out.ext HZ15.out).cell 5
  go_upto_region 29 with (go_at_call 16; refine CK.out.mono ?_; rintro e w16 ⟨⟨rfl, hg16⟩, hch⟩; have HG16 := Lib.hid hg16; have HCH := Lib.hid (hch rfl); clear hg16 hch)
  clear n0 n1 n2 n3 n4 n5
  have HX16 := Lib.hid (show Ext w1 w16 from Below.grown HX15.out.below HG16.out HX15.out.size (fun k e => by cases e; have := HSZ.out; have := HCB1.out; omega))
  have HD16 : Hid (Ints w16 vD (drwS p k (plD5 p k (stepP p k 2 [] seed) o at_) an)) := Lib.hid ((HD2.out.ext HZ15.out).grown HG16.out (fun q' hq e => by have := HDQ.out q' hq; have := Option.some.inj e; omega))
  have HE16 := Lib.hid (show w16.cell? ⟨hb, 1, none⟩ = some vD from HG16.out.cell (HZ15.out.cell HD1.out) (fun e => by have := HHB.out; have := Option.some.inj e; simp only at this; omega))
  go_upto_region 30 with (go_at_call 14; refine (cdig_any (_p := p) HCH.out (by rw [HDL.out]; omega)).mono ?_; rintro e w17 ⟨v17, rfl, hx17, hi17⟩; have HX17 := Lib.hid hx17; have HI17 := Lib.hid hi17; clear hx17 hi17)
  have d1 : w17.cell? ⟨hb, 1, none⟩ = some vD := HX17.out.cell HE16.out
  go_upto_region 31 with (go_at_call 15; refine (sints_any _ _ _ _ _ HI17.out (HD16.out.ext HX17.out)).mono ?_; rw [decide_eq_true rfl]; rintro e w18 hrd; obtain ⟨rfl, hx18⟩ := hrd.ext; have HX18 := Lib.hid (HX16.out.trans (HX17.out.trans hx18)); clear hrd hx18 d1)
  have c0 := HX18.out.cell HSP.out.c0
  have hze : (z == z) = true := beq_self_eq_true z
  go_wp2_with (first | (go_at_call 18; refine (sfieldof_any c0).mono ?_; rintro e w' ⟨rfl, rfl⟩) | (go_at_call 17; refine (CEX.out _ HX18.out).mono ?_; rintro e w19 ⟨rfl, hx19⟩))
  go_ret
  exact ⟨rfl, HX1.out.trans (HX18.out.trans hx19)⟩
end
end Go.Proofs.YtfepefbehgbjpaaGreatDoor
