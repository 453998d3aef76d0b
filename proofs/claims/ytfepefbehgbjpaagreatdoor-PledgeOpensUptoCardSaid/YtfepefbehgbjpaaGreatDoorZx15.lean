/- What is not so is seen by nearly all numbers: plain laws. What goes through numbers at 0, 1, .. is one: plain laws. No program in sight. The places that are looked at, both sides: contracts. The places that are looked at, the program's side: contract. How many groups are hidden, the program's side: contract. The document's Climb, as it lies. What the document's Climb comes to, as a total function, against the root worked out of what is shown; how the two groups of a group lie. Plain: no program in sight. The maps of tree.way: what stands at each group, in plain words. The document's draw once more, with where the chain's digest lies: contract (turned from XN8). -/
import Derived.Test.YtfepefbehgbjpaaGreatDoorZx6
import Derived.Test.YtfepefbehgbjpaaGreatDoorZx2
import Derived.Test.YtfepefbehgbjpaaGreatDoorZx14
import Derived.Test.YtfepefbehgbjpaaGreatDoorJm
import Derived.Test.YtfepefbehgbjpaaGreatDoorZx8
import Derived.DeepKeys4
import Derived.WideKeyEntry
section
namespace Go.Att
end Go.Att
end
section
namespace Go.Att
end Go.Att
end
section
namespace Go.Att
open Go.RowKit
def plcL (p : Int) (k : Nat) (D : List Int) (n : Int) (m : Nat) : List Int := (List.range m).map fun i => plcV p (drwS p k D (i + 1)) n
theorem plcL_snoc (p : Int) (k : Nat) (D : List Int) (n : Int) (m : Nat) : plcL p k D n (m + 1) = plcL p k D n m ++ [plcV p (drwS p k D (m + 1)) n] := by simp [plcL, List.range_succ]
theorem plcL_length (p : Int) (k : Nat) (D : List Int) (n : Int) (m : Nat) : (plcL p k D n m).length = m := by simp [plcL]
theorem plcL_in {p : Int} {k : Nat} {D : List Int} {n : Int} (hn : 1 ≤ n) {m : Nat} {x : Int} (hx : x ∈ plcL p k D n m) : 0 ≤ x ∧ x < n := by
  obtain ⟨i, _, rfl⟩ := List.mem_map.1 hx
  exact plcV_bd hn
def Apart (w : World) (cb : Nat) (v : Value) : Prop := ∀ u, w.cell? ⟨cb, 1, none⟩ = some u → ∀ q, u.ownBlock = some q → some q ≠ v.ownBlock
theorem ints_blk {w : World} {v : Value} {l : List Int} (h : Ints w v l) (hn : 1 ≤ l.length) {q : Nat} (hq : v.ownBlock = some q) : q < w.heap.size := by
  obtain ⟨ao, cap, rfl, h2, h3, h4, h5⟩ := h
  obtain ⟨b, off, rfl, hc⟩ := h5 0 (by rw [List.length_map]; omega)
  simp [Value.ownBlock] at hq
  subst hq
  exact World.block_lt_of_cell? w _ hc
end Go.Att
namespace Go.Proofs.YtfepefbehgbjpaaGreatDoor
open Go.RowKit Go.Att
end Go.Proofs.YtfepefbehgbjpaaGreatDoor
end
section
namespace Go.Proofs.YtfepefbehgbjpaaGreatDoor
open Go.RowKit Go.Att
set_option maxRecDepth 100000 in
set_option maxHeartbeats 4000000 in
theorem cdrawn_any {w : World} {cb bs : Nat} {p : Int} {k : Nat} {D : List Int} (hp : 2 ≤ p) (hp2 : p ≤ 2147483647) (hc : ChP w cb (.pointer (some ⟨bs, 0, none⟩)) D) (hbs : ∀ w', w.grownBy w' (some cb) → Spg w' (.pointer (some ⟨bs, 0, none⟩)) p k) (hl : D.length = 4) (n : Int) (h1 : 1 ≤ n) (hn : n ≤ 65536) (m : Nat) (hm1 : 1 ≤ m) (hm : m ≤ 64) :
    Calls Tryz.prog 36 #[.pointer (some ⟨cb, 0, none⟩), .int .i64 n, .int .i64 m] w fun e w' => ∃ v, e = .returned v ∧ w.grownBy w' (some cb) ∧ ChP w' cb (.pointer (some ⟨bs, 0, none⟩)) (drwS p k D m) ∧ Ints w' v (onceL (plcL p k D n m)) ∧ NewIn w v := by
  have hlt : cb < w.heap.size := World.block_lt_of_cell? w _ hc.c0
  have HC := Lib.hid hc; have HBS := Lib.hid hbs
  clear hc hbs
  go_enter Tryz.func36, Tryz.ntmps36
  go_wp2_with fail
  go_loopw [7, 9] (fun x7 x9 wr => ∃ i : Nat, i ≤ m ∧ x9 = .int .i64 i ∧ Hid (wr.ownsRow w.heap.size 3 1 x7 i ((plcL p k D n i).map (Value.int .i64))) ∧ Hid (w.grownBy wr (some cb)) ∧ Hid (ChP wr cb (.pointer (some ⟨bs, 0, none⟩)) (drwS p k D i)) ∧ Hid (Apart wr cb x7)) (fun _ x9 _ => m - (intOf x9).toNat)
  case atStart => exact ⟨0, Nat.zero_le _, rfl, Lib.hid (World.ownsRow_nil _ _ _ _), Lib.hid (World.grownBy.refl _ _), HC, Lib.hid (fun u _ q _ e => by cases e)⟩
  case round =>
    obtain ⟨i, hi, rfl, HO, HG, HCI, HAP⟩ := hrel
    have hsz := HG.out.size
    by_cases hin : i < m
    · have hDl := drwS_length p k hl i
      have HPL := Lib.hid (plcL_snoc p k D n i)
      have CP := Lib.hid (cplace_any hp hp2 HCI.out (HBS.out _ HG.out) (fun w' hg => HBS.out w' (grown_one HG.out hg)) (by omega) n h1 hn)
      have HST : Hid (stepP p k 4 (drwS p k D i) [] = drwS p k D (i + 1)) := Lib.hid rfl
      rw [HST.out] at CP
      obtain ⟨z, hz⟩ : ∃ z, plcV p (drwS p k D (i + 1)) n = z := ⟨_, rfl⟩
      rw [hz] at CP HPL
      clear hz
      go_wp2_with (first | (go_at_call 92; refine CP.out.mono ?_; rintro e w3 ⟨rfl, hg3, hc3, hd3⟩; have HD3 := Lib.hid hd3; have HG3 := Lib.hid (HG.out.trans hg3); have HC3 := Lib.hid hc3; have HO3 := own_low HO.out hg3 hlt; have hs3 := hg3.size; clear hg3 hc3 hd3) | (at_builtin; refine wpList_appNw rfl _ _ 22 rfl slInts rfl (by omega) HO3 rfl #[.int .i64 z] rfl (by intro u hu; simp at hu; subst hu; rfl) rfl (by omega) (by omega) ?_; intro v7 w7 HO7 HG7 HM7))
      have HNE : Hid (∀ u, w3.cell? ⟨cb, 1, none⟩ = some u → ∀ q, u.ownBlock = some q → q < w3.heap.size) := Lib.hid fun u hu q hq => by
        obtain ⟨v3, e3, i3⟩ := HC3.out.c1
        obtain rfl := Option.some.inj (e3.symm.trans hu)
        exact ints_blk i3 (by rw [drwS_length p k hl]; omega) hq
      have HCB : Hid (some cb ≠ u7.ownBlock) := Lib.hid fun e => by have := (HO3.lt _ e.symm).1; omega
      have HC7 := Lib.hid (HC3.out.grown HG7 HCB.out (fun v hv q hq e => by have h5 := HD3.out v hv q hq; have h6 := (HO.out.lt _ e.symm).2; omega))
      have HAP7 : Hid (Apart w7 cb v7) := Lib.hid fun u hu q hq e => by
        rw [World.cell?_of_block (a := ⟨cb, 1, none⟩) (HG7.block cb (by omega) HCB.out)] at hu
        rcases HM7 with h | h
        · have h5 := HD3.out u hu q hq
          rw [h] at e
          have h6 := (HO.out.lt _ e.symm).2; omega
        · have h5 := HNE.out u hu q hq
          have h6 := h q e.symm; omega
      go_roundw
      case rel => exact ⟨i + 1, by omega, by go_num, Lib.hid (by rw [HPL.out, List.map_append]; exact HO7), Lib.hid (grown_low HG3.out HG7 (fun q hq => (HO3.lt q hq).1)), HC7, HAP7⟩
      case measure => simp [intOf]; omega
    · obtain rfl : i = m := by omega
      have hls := LstI.of_own hm1 HO.out
      have CS := Lib.hid (psort_any hls (by rw [plcL_length]; omega))
      have HOB : Hid (∀ q, u7.ownBlock = some q → w.heap.size ≤ q) := Lib.hid fun q hq => (HO.out.lt q hq).1
      have HCB : Hid (some cb ≠ u7.ownBlock) := Lib.hid fun e => by have := HOB.out _ e.symm; omega
      have HSL := Lib.hid (show ((plcL p k D n i).mergeSort fun x y => decide (x ≤ y)).length = i from by rw [List.length_mergeSort, plcL_length])
      clear hls
      go_wp2_with (first | (go_at_call 85; refine CS.out.mono ?_; rintro e w8 ⟨rfl, hg8, hl8⟩; have HL8 := Lib.hid hl8; have HG8 := Lib.hid hg8; clear hl8 hg8) | (go_at_call 87; refine (pcompact_any HL8.out (by rw [HSL.out]; omega)).mono ?_; rintro e w9 ⟨u9, rfl, hg9, ho9, hl9⟩))
      have HGA := Lib.hid (grown_one HG8.out hg9)
      go_ret
      exact ⟨_, rfl, grown_low HG.out HGA.out HOB.out, HCI.out.grown HGA.out HCB.out (fun v hv q hq => HAP.out v hv q hq), hl9.ints, fun q hq => HOB.out q (by rw [← ho9]; exact hq)⟩
end Go.Proofs.YtfepefbehgbjpaaGreatDoor
end
section
namespace Go.Proofs.YtfepefbehgbjpaaGreatDoor
open Go.RowKit Go.Att
set_option maxRecDepth 100000 in
theorem fol1_any {w : World} {bx : Nat} {c : Int} (h : BlkOf w bx [.int .i64 c] 3) (hc : 0 ≤ c ∧ c ≤ 1000000) (a b : Int) :
    Calls Tryz.prog 143 #[.agg #[.int .i64 a, .int .i64 b], .pointer (some ⟨bx, 0, none⟩)] w fun e w' => e = .returned (.tuple #[]) ∧ w.grownBy w' (some bx) ∧ BlkOf w' bx [.int .i64 (c + 1)] 3 := by
  have hx := Ext.alloc w (Obj.cells #[.int .i64 a, .int .i64 b] 127)
  have HX := Lib.hid hx
  have HB := Lib.hid (h.ext hx)
  clear h hx
  go_enter Tryz.func143, Tryz.ntmps143
  go_upto_region 1 with (fail)
  generalize w.alloc (Obj.cells #[.int .i64 a, .int .i64 b] 127) = W0 at *
  have d0 : W0.cell? ⟨bx, 0, none⟩ = some (.int .i64 c) := HB.out.cell 0
  have d1 := HB.out.free 0
  go_wp2_with fail
  have hg := setCell_grown W0 bx 0 (.int .i64 (c + 1))
  refine bodyPost_end (results_none rfl _ _ _) rfl ⟨rfl, (HX.out.grownBy _).trans hg, HB.out.set 0 _⟩
theorem hid_le (pl : List Int) : ∀ (f n a : Nat), 1 ≤ n → n ≤ f → hidN pl f a n ≤ n
  | 0, n, a, h1, h2 => by omega
  | f + 1, n, a, h1, h2 => by
    simp only [hidN]
    split
    · split
      · omega
      · rename_i hn
        have hb := lfN_bd (show 2 ≤ n by omega)
        have i1 := hid_le pl f (lfN n) a hb.1 (by omega)
        have i2 := hid_le pl f (n - lfN n) (a + lfN n) (by omega) (by omega)
        omega
    · exact h1
set_option maxRecDepth 100000 in
set_option maxHeartbeats 4000000 in
theorem hiddenN_any {v : Value} {pl : List Int} {bx : Nat} (hs : pl.Pairwise (· ≤ ·)) (hl : pl.length ≤ 1000000) (hv : ∀ W W', W.grownBy W' (some bx) → Ints W v pl → Ints W' v pl) : ∀ (f n a : Nat), 1 ≤ n → n ≤ f → a + n ≤ 65536 → ∀ (W : World) (c : Nat), Ints W v pl → BlkOf W bx [.int .i64 (c : Int)] 3 → c + n ≤ 65536 →
    Calls Tryz.prog 89 #[.agg #[.int .i64 a, .int .i64 ((a : Int) + n)], v, .func (Fn.func 143) #[] #[.pointer (some ⟨bx, 0, none⟩)]] W fun e w' => e = .returned (.tuple #[]) ∧ W.grownBy w' (some bx) ∧ BlkOf w' bx [.int .i64 ((c + hidN pl f a n : Nat) : Int)] 3
  | 0, n, a, h1, h2, h3, W, c, hI, hB, hc => by omega
  | f + 1, n, a, h1, h2, h3, W, c, hI, hB, hc => by
    have hx := Ext.alloc W (Obj.cells #[.int .i64 a, .int .i64 ((a : Int) + n)] 127)
    have HX := Lib.hid hx; have HI := Lib.hid (hI.ext hx); have HB := Lib.hid (hB.ext hx)
    have HK := Lib.hid (BlkOf.new W [.int .i64 a, .int .i64 ((a : Int) + n)] 127)
    have HH := Lib.hid (show hidN pl (f + 1) a n = if sho pl a ((a : Int) + n) = true then (if n = 1 then 0 else hidN pl f a (lfN n) + hidN pl f (a + lfN n) (n - lfN n)) else 1 from rfl)
    have CS := Lib.hid (fun W (h : Ints W v pl) => shows_any h hs hl a ((a : Int) + n))
    obtain ⟨b, hb⟩ : ∃ b : Int, (a : Int) + n = b := ⟨_, rfl⟩
    rw [hb] at HX HI HB HK CS HH ⊢
    have HBE := Lib.hid hb
    have hab : (a : Int) < b ∧ b ≤ 65536 := by omega
    obtain ⟨sh, hsh⟩ : ∃ sh, sho pl a b = sh := ⟨_, rfl⟩
    rw [hsh] at CS HH
    clear hx hI hB hb hsh
    go_enter Tryz.func89, Tryz.ntmps89
    go_upto_region 1 with (fail)
    generalize W.alloc (Obj.cells #[.int .i64 a, .int .i64 b] 127) = W0 at *
    generalize W.heap.size = kb at *
    have e0 : W0.cell? ⟨kb, 0, none⟩ = some (.int .i64 a) := HK.out.cell 0
    have e1 : W0.cell? ⟨kb, 1, none⟩ = some (.int .i64 b) := HK.out.cell 1
    cases sh with
    | false =>
      go_wp2_with (first | (go_at_call 130; refine (CS.out _ HI.out).mono ?_; rintro e w1 ⟨rfl, hx1⟩; have HX1 := Lib.hid (HX.out.trans hx1); have HB1 := Lib.hid (HB.out.ext hx1); have q0 := hx1.cell e0; have q1 := hx1.cell e1; clear hx1) | (go_at_call 143; refine (fol1_any HB1.out (by omega) _ _).mono ?_; rintro e w2 ⟨rfl, hg2, hb2⟩))
      refine bodyPost_ret (results_none rfl _ _ _) rfl ⟨rfl, (HX1.out.grownBy _).trans hg2, by rw [HH.out, if_neg (by decide)]; exact hb2⟩
    | true =>
      by_cases hn : n = 1
      · have hba : ¬ (1 : Int) < b - a := by have := HBE.out; omega
        go_wp2_with (go_at_call 130; refine (CS.out _ HI.out).mono ?_; rintro e w1 ⟨rfl, hx1⟩; have HX1 := Lib.hid (HX.out.trans hx1); have HB1 := Lib.hid (HB.out.ext hx1); have q0 := hx1.cell e0; have q1 := hx1.cell e1; clear hx1)
        refine bodyPost_end (results_none rfl _ _ _) rfl ⟨rfl, HX1.out.grownBy _, by rw [HH.out, if_pos trivial, if_pos hn]; exact HB1.out⟩
      · have hba : (1 : Int) < b - a := by have := HBE.out; omega
        have HLB := Lib.hid (lfN_bd (show 2 ≤ n by omega))
        have CH := Lib.hid (fun W => by have := thalves_any a n (by omega) h3 (w := W); rw [HBE.out] at this; exact this)
        go_upto_region 4 with (go_at_call 130; refine (CS.out _ HI.out).mono ?_; rintro e w1 ⟨rfl, hx1⟩; have HX1 := Lib.hid (HX.out.trans hx1); have HB1 := Lib.hid (HB.out.ext hx1); have HI1 := Lib.hid (HI.out.ext hx1); have q0 := hx1.cell e0; have q1 := hx1.cell e1; clear hx1)
        go_upto_region 5 with (go_at_call 127; refine (CH.out _).mono ?_; rintro e w2 ⟨u2, rfl, hx2, rfl⟩; have HX2 := Lib.hid (HX1.out.trans hx2); have HB2 := Lib.hid (HB1.out.ext hx2); have HI2 := Lib.hid (HI1.out.ext hx2); clear hx2)
        have hm1 : ((a + lfN n : Nat) : Int) = (a : Int) + lfN n := by omega
        have hm2 : (((a + lfN n : Nat) : Int) + ((n - lfN n : Nat) : Int)) = b := by have := HBE.out; have := HLB.out; omega
        have i1 := hid_le pl f (lfN n) a HLB.out.1 (by have := HLB.out; omega)
        have C1 := Lib.hid (fun W h1 h2 => hiddenN_any hs hl hv f (lfN n) a HLB.out.1 (by have := HLB.out; omega) (by have := HLB.out; omega) W c h1 h2 (by have := HLB.out; omega))
        have C2 := Lib.hid (fun W h1 h2 => hiddenN_any hs hl hv f (n - lfN n) (a + lfN n) (by have := HLB.out; omega) (by have := HLB.out; omega) (by have := HLB.out; omega) W (c + hidN pl f a (lfN n)) h1 h2 (by have := HLB.out; omega))
        rw [hm2, hm1] at C2
        have HHV := Lib.hid (show hidN pl (f + 1) a n = hidN pl f a (lfN n) + hidN pl f (a + lfN n) (n - lfN n) from by rw [HH.out, if_pos trivial, if_neg hn])
        clear i1 hm1 hm2
        obtain ⟨mm, hmm⟩ : ∃ mm : Int, (a : Int) + lfN n = mm := ⟨_, rfl⟩
        rw [hmm] at C1 C2 ⊢
        clear hmm
        have hx3 := Ext.alloc w2 (Obj.cells #[.int .i64 a, .int .i64 mm] 127)
        have HK3 := Lib.hid (BlkOf.new w2 [.int .i64 a, .int .i64 mm] 127)
        generalize hw3 : w2.alloc (Obj.cells #[.int .i64 a, .int .i64 mm] 127) = w3 at *
        have hs3 : w3.heap.size = w2.heap.size + 1 := by rw [← hw3]; exact World.size_alloc _ _
        have hx4 := Ext.alloc w3 (Obj.cells #[.int .i64 mm, .int .i64 b] 127)
        have HK4 := Lib.hid (BlkOf.new w3 [.int .i64 mm, .int .i64 b] 127)
        have HK34 := Lib.hid (HK3.out.ext hx4)
        rw [hs3] at HK4
        have HX4 := Lib.hid (HX2.out.trans (hx3.trans hx4)); have HB4 := Lib.hid (HB2.out.ext (hx3.trans hx4)); have HI4 := Lib.hid (HI2.out.ext (hx3.trans hx4))
        have HBL : Hid (bx < w2.heap.size) := Lib.hid HB2.out.lt
        clear hx3 hx4 hw3 hs3 HK3 q0 q1
        generalize w3.alloc (Obj.cells #[.int .i64 mm, .int .i64 b] 127) = w4 at *
        obtain ⟨g1, hg1⟩ : ∃ g1, w2.heap.size = g1 := ⟨_, rfl⟩
        rw [hg1] at HK34 HK4 HBL ⊢
        clear hg1
        have r0 : w4.cell? ⟨g1, 0, none⟩ = some (.int .i64 a) := HK34.out.cell 0
        have r1 : w4.cell? ⟨g1, 1, none⟩ = some (.int .i64 mm) := HK34.out.cell 1
        go_wp2_with fail
        refine (C1.out _ HI4.out HB4.out).mono ?_
        rintro e w5 ⟨rfl, hg5, hb5⟩
        have HI5 := Lib.hid (hv _ _ hg5 HI4.out)
        have HB5 := Lib.hid hb5; have HG5 := Lib.hid hg5
        have HK5 := Lib.hid (HK4.out.grown hg5 (fun e => by have := Option.some.inj e; have := HBL.out; omega))
        clear hg5 hb5 r0 r1
        have r0 : w5.cell? ⟨g1 + 1, 0, none⟩ = some (.int .i64 mm) := HK5.out.cell 0
        have r1 : w5.cell? ⟨g1 + 1, 1, none⟩ = some (.int .i64 b) := HK5.out.cell 1
        go_wp2_with fail
        refine (C2.out _ HI5.out HB5.out).mono ?_
        rintro e w6 ⟨rfl, hg6, hb6⟩
        go_wp2_with fail
        refine bodyPost_end (results_none rfl _ _ _) rfl ⟨rfl, grown_one ((HX4.out.grownBy _).trans HG5.out) hg6, by rw [HHV.out, ← Nat.add_assoc]; exact hb6⟩
end Go.Proofs.YtfepefbehgbjpaaGreatDoor
end
section
namespace Go.Att
open Go.RowKit
end Go.Att
namespace Go.Proofs.YtfepefbehgbjpaaGreatDoor
open Go.RowKit Go.Att
end Go.Proofs.YtfepefbehgbjpaaGreatDoor
end
section
namespace Go.Att
open Go.RowKit
section
variable {p : Int} {k : Nat} {pl : List Int} {rows nodes : List (List Int)}
def Wkd (p : Int) (k : Nat) (pl : List Int) (rows : List (List Int)) (D L : Int → Int → Option (List Int)) : Nat → Nat → Nat → List (List Int) → Prop
  | 0, _, _, _ => False
  | f + 1, a, n, nodes => if sho pl a ((a : Int) + n) = true then
      (if n = 1 then D a ((a : Int) + n) = some (hashP p k (0 :: rowOf pl rows a)) ∧ L a ((a : Int) + n) = some (0 :: (rowOf pl rows a).map (fof p))
       else ∃ x r y s, clbF p k pl rows f a (lfN n) nodes = some (x, r) ∧ clbF p k pl rows f (a + lfN n) (n - lfN n) r = some (y, s) ∧ Wkd p k pl rows D L f a (lfN n) nodes ∧ Wkd p k pl rows D L f (a + lfN n) (n - lfN n) r ∧
        D a ((a : Int) + n) = some (hashP p k (1 :: (x ++ y))) ∧ L a ((a : Int) + n) = some (1 :: (x ++ y)))
    else ∃ d r, nodes = d :: r ∧ d.length = 4 ∧ D a ((a : Int) + n) = some (d.map (fof p)) ∧ L a ((a : Int) + n) = none
theorem Wkd.dig {D L : Int → Int → Option (List Int)} : ∀ {f a n : Nat} {nodes : List (List Int)}, Wkd p k pl rows D L f a n nodes → ∃ d r, clbF p k pl rows f a n nodes = some (d, r) ∧ D a ((a : Int) + n) = some d
  | 0, _, _, _, h => h.elim
  | f + 1, a, n, nodes, h => by
    simp only [Wkd] at h
    simp only [clbF]
    by_cases hs : sho pl a ((a : Int) + n) = true
    · rw [if_pos hs] at h ⊢
      by_cases hn : n = 1
      · rw [if_pos hn] at h ⊢; exact ⟨_, _, rfl, h.1⟩
      · rw [if_neg hn] at h ⊢
        obtain ⟨x, r, y, s, h1, h2, _, _, h5, _⟩ := h
        rw [h1]; simp only; rw [h2]; exact ⟨_, _, rfl, h5⟩
    · rw [if_neg hs] at h ⊢
      obtain ⟨d, r, rfl, hd, h3, _⟩ := h
      simp only; rw [if_pos hd]; exact ⟨_, _, rfl, h3⟩
def SameIn (lo hi : Int) (D D' : Int → Int → Option (List Int)) : Prop := ∀ x y, lo ≤ x → y ≤ hi → x < y → D' x y = D x y
theorem Wkd.congr {D L D' L' : Int → Int → Option (List Int)} : ∀ {f a n : Nat} {nodes : List (List Int)}, 1 ≤ n → SameIn a ((a : Int) + n) D D' → SameIn a ((a : Int) + n) L L' → Wkd p k pl rows D L f a n nodes → Wkd p k pl rows D' L' f a n nodes
  | 0, _, _, _, _, _, _, h => h.elim
  | f + 1, a, n, nodes, hn1, hD, hL, h => by
    have eD := hD a ((a : Int) + n) (Int.le_refl _) (Int.le_refl _) (by omega)
    have eL := hL a ((a : Int) + n) (Int.le_refl _) (Int.le_refl _) (by omega)
    simp only [Wkd] at h ⊢
    rw [eD, eL]
    by_cases hs : sho pl a ((a : Int) + n) = true
    · rw [if_pos hs] at h ⊢
      by_cases hn : n = 1
      · rw [if_pos hn] at h ⊢; exact h
      · rw [if_neg hn] at h ⊢
        have hb := lfN_bd (show 2 ≤ n by omega)
        obtain ⟨x, r, y, s, h1, h2, h3, h4, h5⟩ := h
        refine ⟨x, r, y, s, h1, h2, Wkd.congr hb.1 (fun u v hu hv huv => hD u v hu (by omega) huv) (fun u v hu hv huv => hL u v hu (by omega) huv) h3, Wkd.congr (by omega) (fun u v hu hv huv => hD u v (by omega) (by omega) huv) (fun u v hu hv huv => hL u v (by omega) (by omega) huv) h4, h5⟩
    · rw [if_neg hs] at h ⊢; exact h
def updP {α : Type} (D : Int → Int → Option α) (a b : Int) (v : Option α) : Int → Int → Option α := fun x y => if x = a ∧ y = b then v else D x y
theorem updP_same {α : Type} (D : Int → Int → Option α) (a b : Int) (v : Option α) : updP D a b v a b = v := if_pos ⟨rfl, rfl⟩
theorem updP_other {α : Type} (D : Int → Int → Option α) {a b x y : Int} (v : Option α) (h : ¬ (x = a ∧ y = b)) : updP D a b v x y = D x y := if_neg h
end
end Go.Att
end
section
namespace Go.Att
open Go.Maps Go.RowKit
theorem Mpv.block {P : Program} {K : TypeId} {w w' : World} {mb n : Nat} {M : Value → Option Value} (h : Mpv P K w mb n M) (e : w'.heap[mb]? = w.heap[mb]?) : Mpv P K w' mb n M := by
  obtain ⟨D, ⟨es, clock, hb, F, hs, hD⟩, h3⟩ := h
  exact ⟨D, ⟨es, clock, e.trans hb, F, hs, hD⟩, h3⟩
def EntAt (P : Program) (T K : TypeId) (W : World) (mb n : Nat) (M : Value → Option Value) (key : Value) (st : Int) : Prop :=
  ∃ o : Obj, W.heap[mb]? = some o ∧ ∀ W2 : World, W2.heap[mb]? = some o → ∀ (v : Value) (M' : Value → Option Value), M' key = some v → (∀ key' l', keyOf P K key' = some l' → key' ≠ key → M' key' = M key') →
    ∃ w', (Instr.entryStore T (.map (some mb)) (.int .i64 st) v).run P W2 = .ok () w' ∧ Mpv P K w' mb (n + 1) M' ∧ W2.grownBy w' (some mb)
theorem EntAt.kept {P : Program} {T K : TypeId} {W W' : World} {mb n : Nat} {M : Value → Option Value} {key : Value} {st : Int} (h : EntAt P T K W mb n M key st) {row : Option Nat} (hg : W.grownBy W' row) (hne : some mb ≠ row) : EntAt P T K W' mb n M key st := by
  obtain ⟨o, h1, h2⟩ := h
  exact ⟨o, (hg.block mb (Array.getElem?_eq_some_iff.1 h1).1 hne).trans h1, h2⟩
theorem Mpv.entry {P : Program} {K E T : TypeId} {w : World} {mb n : Nat} {M : Value → Option Value} (hk : WideMaps.KeyLaw P K) (ht : P.underlying T = some (.map K E)) {z : Value} (hz : ∀ u : World, (zeroValue E).run P u = .ok z u) (h : Mpv P K w mb n M) (hn : n < 9223372036854775807) {key : Value} {l : Lit} (hkey : keyOf P K key = some l) :
    ∃ (v0 : Value) (st : Int) (W1 : World), (Instr.mapEntry T (.map (some mb)) key).run P w = .ok (.tuple #[v0, .int .i64 st]) W1 ∧ w.grownBy W1 (some mb) ∧ EntAt P T K W1 mb n M key st := by
  have h0 := h
  obtain ⟨D, ⟨es, clock, hb, F, hs, hD⟩, hd⟩ := h0
  obtain ⟨v0, st, es1, clock1, hr, -, hst⟩ := WideElems.entry_then_store hk ht hz hb F hkey
  refine ⟨v0, (st : Int), _, hr, ⟨rfl, rfl, rfl, by simp [ChangeMaps.setBlock], fun i _ hi => ChangeMaps.heap_setBlock_other hb _ (fun e => hi (by rw [e]))⟩, .map es1 clock1, ChangeMaps.heap_setBlock_same hb _, fun W2 h2 v M' h3 h4 => ?_⟩
  obtain ⟨es', clock', hr1, hr2⟩ := hst W2 v h2
  obtain ⟨w', hr3, hm', hg'⟩ := h.put (Keyed.of_law hk) ht hn hkey h3 h4
  rw [hr2] at hr3
  injection hr3 with _ hw
  subst hw
  exact ⟨_, hr1, hm'.block (by rw [ChangeMaps.heap_setBlock_same h2, ChangeMaps.heap_setBlock_same hb]), ⟨rfl, rfl, rfl, by simp [ChangeMaps.setBlock], fun i _ hi => ChangeMaps.heap_setBlock_other h2 _ (fun e => hi (by rw [e]))⟩⟩
def digV (d : List Int) : Value := .agg (d.map (Value.int .i64)).toArray
def Wf64 (a : Int) : Prop := -9223372036854775808 ≤ a ∧ a ≤ 9223372036854775807
end Go.Att
namespace Go.Proofs.YtfepefbehgbjpaaGreatDoor
open Go.RowKit Go.Att
theorem grp_law : WideMaps.KeyLaw Tryz.prog 127 := deep_law_laid (by kernel_rfl) (m := 2) (by omega) (of_decide_eq_true (by kernel_rfl)) (by kernel_rfl) (by kernel_rfl)
theorem grp_keyed : Maps.Keyed Tryz.prog 127 := Maps.Keyed.of_law grp_law
theorem grp_key {a b : Int} (ha : Wf64 a) (hb : Wf64 b) : ∃ l, keyOf Tryz.prog 127 (.agg #[.int .i64 a, .int .i64 b]) = some l := by
  have w1 : (Lit.int .i64 a).wf = true := WalkArith.wf_i64 (by unfold Wf64 at ha; omega)
  have w2 : (Lit.int .i64 b).wf = true := WalkArith.wf_i64 (by unfold Wf64 at hb; omega)
  have hkt : (Tryz.prog).keyType 127 = true := by kernel_rfl
  have hco : (Tryz.prog).cellsOf 127 = 2 := by kernel_rfl
  have hci : (Tryz.prog).cellsOf 3 = 1 := by kernel_rfl
  obtain ⟨m, hm⟩ : ∃ m, (Tryz.prog).types.size + 1 = m + 1 + 1 := ⟨(Tryz.prog).types.size - 1, by have h : (0 : Nat) < (Tryz.prog).types.size := of_decide_eq_true (by kernel_rfl); omega⟩
  refine Option.isSome_iff_exists.1 ?_
  unfold keyOf
  rw [Tryz.underlying127, hm]
  simp only [hkt, Value.formed, Tryz.underlying127, hco, Value.cells, Program.keyLits]
  simp [hci, Tryz.underlying3, w1, w2]
structure WayAt (W : World) (wb mb lb n : Nat) (D L : Int → Int → Option (List Int)) : Prop where
  blk : BlkOf W wb [.map (some mb), .map (some lb)] 180
  dig : Mpv Tryz.prog 127 W mb n (grpM fun x y => (D x y).map digV)
  lst : ∃ LV : Int → Int → Option Value, Mpv Tryz.prog 127 W lb n (grpM LV) ∧ ∀ x y, (L x y = none ∧ LV x y = none) ∨ ∃ v l, LV x y = some v ∧ L x y = some l ∧ Ints W v l
  n1 : mb ≠ lb
  n2 : wb ≠ mb
  n3 : wb ≠ lb
set_option maxRecDepth 100000 in
theorem grp_shape {key : Value} {l : Lit} (h : keyOf Tryz.prog 127 key = some l) : ∃ c d, key = .agg #[c, d] := by
  have hco : (Tryz.prog).cellsOf 127 = 2 := by kernel_rfl
  unfold keyOf at h
  rw [Tryz.underlying127] at h
  dsimp only at h
  by_cases h1 : ((Tryz.prog).keyType 127 && key.formed Tryz.prog 127) = true
  · rw [Bool.and_eq_true] at h1
    have h2 := h1.2
    unfold Value.formed at h2
    rw [Tryz.underlying127] at h2
    cases key with
    | agg cs =>
      dsimp only at h2
      rw [hco] at h2
      rcases cs with ⟨cl⟩
      match cl, h2 with
      | [c, d], _ => exact ⟨c, d, rfl⟩
      | [], h2 => simp at h2
      | [_], h2 => simp at h2
      | _ :: _ :: _ :: _, h2 => simp at h2
    | _ => simp at h2
  · rw [if_neg h1] at h; cases h
theorem grpM_upd {m : Int → Int → Option Value} {a b : Int} {m' : Int → Int → Option Value} (hm : ∀ x y, ¬ (x = a ∧ y = b) → m' x y = m x y) {key : Value} {l : Lit} (hl : keyOf Tryz.prog 127 key = some l) (hne : key ≠ .agg #[.int .i64 a, .int .i64 b]) : grpM m' key = grpM m key := by
  obtain ⟨c, d, rfl⟩ := grp_shape hl
  exact grpL_upd (a := a) (b := b) hm (fun e => hne (by
    have : (#[c, d] : Array Value) = #[.int .i64 a, .int .i64 b] := by rw [← Array.toArray_toList (xs := #[c, d]), e]
    rw [this]))
section
variable {W W' : World} {wb mb lb n : Nat} {D L : Int → Int → Option (List Int)}
theorem WayAt.ints_kept (h : WayAt W wb mb lb n D L) {W' : World} (ht : Turned mb lb W W') {v : Value} {l : List Int} (hv : Ints W v l) : Ints W' v l := by
  obtain ⟨LV, hl, -⟩ := h.lst
  obtain ⟨o1, e1, i1⟩ := h.dig.notCells mb rfl
  obtain ⟨o2, e2, i2⟩ := hl.notCells lb rfl
  obtain ⟨ao, cap, rfl, h2, h3, h4, h5⟩ := hv
  refine ⟨ao, cap, rfl, h2, h3, h4, fun i hi => ?_⟩
  obtain ⟨q, off, e, hc⟩ := h5 i hi
  refine ⟨q, off, e, ht.cell hc ?_ ?_⟩
  · rintro rfl
    unfold World.cell? at hc
    simp only [e1] at hc
    cases o1 <;> simp_all [Obj.isCells]
  · rintro rfl
    unfold World.cell? at hc
    simp only [e2] at hc
    cases o2 <;> simp_all [Obj.isCells]
theorem WayAt.ext (h : WayAt W wb mb lb n D L) (hx : Ext W W') : WayAt W' wb mb lb n D L :=
  ⟨h.blk.ext hx, h.dig.ext hx, let ⟨LV, h1, h2⟩ := h.lst; ⟨LV, h1.ext hx, fun x y => (h2 x y).elim .inl fun ⟨v, l, e1, e2, e3⟩ => .inr ⟨v, l, e1, e2, e3.ext hx⟩⟩, h.n1, h.n2, h.n3⟩
theorem WayAt.mono (h : WayAt W wb mb lb n D L) {m : Nat} (hm : n ≤ m) : WayAt W wb mb lb m D L :=
  ⟨h.blk, h.dig.mono hm, let ⟨LV, h1, h2⟩ := h.lst; ⟨LV, h1.mono hm, h2⟩, h.n1, h.n2, h.n3⟩
theorem WayAt.look (h : WayAt W wb mb lb n D L) {a b : Int} (ha : Wf64 a) (hb : Wf64 b) {d : List Int} (hd : D a b = some d) :
    (Instr.lookup 177 (.map (some mb)) (.agg #[.int .i64 a, .int .i64 b]) false).run Tryz.prog W = .ok (digV d) W := by
  obtain ⟨l, hl⟩ := grp_key ha hb
  have := h.dig.look grp_keyed (T := 177) (E := 182) Tryz.underlying177 (z := .agg #[.int .i64 0, .int .i64 0, .int .i64 0, .int .i64 0]) (by kernel_rfl) hl
  rw [this, grpM_at, hd]; rfl
theorem WayAt.put (h : WayAt W wb mb lb n D L) (hn : n ≤ 1000000) {a b : Int} (ha : Wf64 a) (hb : Wf64 b) (d : List Int) :
    ∃ w', (Instr.mapUpdate 177 (.map (some mb)) (.agg #[.int .i64 a, .int .i64 b]) (digV d)).run Tryz.prog W = .ok () w' ∧ W.grownBy w' (some mb) ∧ WayAt w' wb mb lb (n + 1) (updP D a b (some d)) L := by
  obtain ⟨l, hl⟩ := grp_key ha hb
  obtain ⟨w', hr, hm, hg⟩ := h.dig.put grp_keyed (T := 177) (E := 182) Tryz.underlying177 (by omega) hl (v := digV d) (M' := grpM fun x y => (updP D a b (some d) x y).map digV) (by rw [grpM_at, updP_same]; rfl) (fun key' l' hk' hne => grpM_upd (fun x y hxy => by rw [updP_other _ _ hxy]) hk' hne)
  refine ⟨w', hr, hg, h.blk.grown hg (fun e => h.n2 (Option.some.inj e)), hm, ?_, h.n1, h.n2, h.n3⟩
  obtain ⟨LV, h1, h2⟩ := h.lst
  exact ⟨LV, (h1.kept hg (fun e => h.n1 (Option.some.inj e).symm)).mono (Nat.le_succ n), fun x y => (h2 x y).elim .inl fun ⟨v, l, e1, e2, e3⟩ => .inr ⟨v, l, e1, e2, h.ints_kept (Turned.one hg) e3⟩⟩
end
def gkey (a b : Int) : Value := .agg #[.int .i64 a, .int .i64 b]
def PutSta (wE : World) (mb lb n : Nat) (D : Int → Int → Option (List Int)) (LV : Int → Int → Option Value) (a b : Int) (vl : Value) (dg : List Int) : Nat → (Nat → Value) → World → Prop
  | 0, _, W => Turned mb lb wE W ∧ Mpv Tryz.prog 127 W lb n (grpM LV) ∧ Mpv Tryz.prog 127 W mb n (grpM fun x y => (D x y).map digV)
  | 1, vs, W => Turned mb lb wE W ∧ (∃ z st, vs 110 = .tuple #[z, .int .i64 st] ∧ EntAt Tryz.prog 178 127 W lb n (grpM LV) (gkey a b) st) ∧ Mpv Tryz.prog 127 W mb n (grpM fun x y => (D x y).map digV)
  | 2, vs, W => Turned mb lb wE W ∧ (∃ st, vs 111 = .int .i64 st ∧ EntAt Tryz.prog 178 127 W lb n (grpM LV) (gkey a b) st) ∧ Mpv Tryz.prog 127 W mb n (grpM fun x y => (D x y).map digV)
  | 3, _, W => Turned mb lb wE W ∧ Mpv Tryz.prog 127 W lb (n + 1) (grpM (updP LV a b (some vl))) ∧ Mpv Tryz.prog 127 W mb n (grpM fun x y => (D x y).map digV)
  | 4, vs, W => Turned mb lb wE W ∧ Mpv Tryz.prog 127 W lb (n + 1) (grpM (updP LV a b (some vl))) ∧ (∃ z st, vs 112 = .tuple #[z, .int .i64 st] ∧ EntAt Tryz.prog 177 127 W mb n (grpM fun x y => (D x y).map digV) (gkey a b) st)
  | 5, vs, W => Turned mb lb wE W ∧ Mpv Tryz.prog 127 W lb (n + 1) (grpM (updP LV a b (some vl))) ∧ (∃ st, vs 113 = .int .i64 st ∧ EntAt Tryz.prog 177 127 W mb n (grpM fun x y => (D x y).map digV) (gkey a b) st)
  | 6, _, W => Turned mb lb wE W ∧ Mpv Tryz.prog 127 W lb (n + 1) (grpM (updP LV a b (some vl))) ∧ Mpv Tryz.prog 127 W mb (n + 1) (grpM fun x y => (updP D a b (some dg) x y).map digV)
  | _, _, _ => False
def putB (mb lb : Nat) : Nat → Option Nat
  | 0 => some lb
  | 2 => some lb
  | 3 => some mb
  | 5 => some mb
  | _ => none
theorem putB_in (mb lb c : Nat) : putB mb lb c = none ∨ putB mb lb c = some lb ∨ putB mb lb c = some mb := by
  unfold putB; split <;> simp
section
variable {wE : World} {mb lb n : Nat} {D : Int → Int → Option (List Int)} {LV : Int → Int → Option Value} {a b : Int} {vl : Value} {dg : List Int}
theorem PutSta.turned : ∀ {k : Nat} {vs : Nat → Value} {W : World}, PutSta wE mb lb n D LV a b vl dg k vs W → Turned mb lb wE W
  | 0, _, _, h => h.1
  | 1, _, _, h => h.1
  | 2, _, _, h => h.1
  | 3, _, _, h => h.1
  | 4, _, _, h => h.1
  | 5, _, _, h => h.1
  | 6, _, _, h => h.1
  | _ + 7, _, _, h => h.elim
theorem none_ne (q : Nat) : (some q : Option Nat) ≠ none := by simp
theorem turned_none {b c : Nat} {w W W' : World} (h : Turned b c w W) (hg : W.grownBy W' none) : Turned b c w W' := h.trans (Turned.one ⟨hg.os, hg.tape, hg.output, hg.size, fun k hk _ => hg.block k hk (by simp)⟩)
theorem PutSta.free {W W' : World} {vs vs' : Nat → Value} (hg : W.grownBy W' none) (e0 : vs' 110 = vs 110) (e1 : vs' 111 = vs 111) (e2 : vs' 112 = vs 112) (e3 : vs' 113 = vs 113) : ∀ {k : Nat}, PutSta wE mb lb n D LV a b vl dg k vs W → PutSta wE mb lb n D LV a b vl dg k vs' W'
  | 0, h => ⟨turned_none h.1 hg, h.2.1.kept hg (none_ne _), h.2.2.kept hg (none_ne _)⟩
  | 1, ⟨h1, ⟨z, st, h2, h3⟩, h4⟩ => ⟨turned_none h1 hg, ⟨z, st, e0.trans h2, h3.kept hg (none_ne _)⟩, h4.kept hg (none_ne _)⟩
  | 2, ⟨h1, ⟨st, h2, h3⟩, h4⟩ => ⟨turned_none h1 hg, ⟨st, e1.trans h2, h3.kept hg (none_ne _)⟩, h4.kept hg (none_ne _)⟩
  | 3, h => ⟨turned_none h.1 hg, h.2.1.kept hg (none_ne _), h.2.2.kept hg (none_ne _)⟩
  | 4, ⟨h1, h4, ⟨z, st, h2, h3⟩⟩ => ⟨turned_none h1 hg, h4.kept hg (none_ne _), ⟨z, st, e2.trans h2, h3.kept hg (none_ne _)⟩⟩
  | 5, ⟨h1, h4, ⟨st, h2, h3⟩⟩ => ⟨turned_none h1 hg, h4.kept hg (none_ne _), ⟨st, e3.trans h2, h3.kept hg (none_ne _)⟩⟩
  | 6, h => ⟨turned_none h.1 hg, h.2.1.kept hg (none_ne _), h.2.2.kept hg (none_ne _)⟩
  | _ + 7, h => h.elim
variable (hne : mb ≠ lb) (hn : n ≤ 1000000) (ha : Wf64 a) (hb : Wf64 b)
include hne hn ha hb
theorem PutSta.s0 {W : World} {vs : Nat → Value} (h : PutSta wE mb lb n D LV a b vl dg 0 vs W) : ∃ (z : Value) (st : Int) (W1 : World), (Instr.mapEntry 178 (.map (some lb)) (.agg #[.int .i64 a, .int .i64 b])).run Tryz.prog W = .ok (.tuple #[z, .int .i64 st]) W1 ∧ W.grownBy W1 (some lb) ∧ ∀ vs', vs' 110 = .tuple #[z, .int .i64 st] → PutSta wE mb lb n D LV a b vl dg 1 vs' W1 := by
  obtain ⟨h1, h2, h3⟩ := h
  obtain ⟨q, hq⟩ := grp_key ha hb
  obtain ⟨z, st, W1, r1, g1, e1⟩ := h2.entry grp_law (T := 178) (E := 22) Tryz.underlying178 (z := .slice none 0 0) (fun u => by kernel_rfl) (by omega) hq
  exact ⟨z, st, W1, r1, g1, fun vs' hv => ⟨h1.trans (Turned.two g1), ⟨z, st, hv, e1⟩, h3.kept g1 (fun e => hne (Option.some.inj e))⟩⟩
theorem PutSta.s3 {W : World} {vs : Nat → Value} (h : PutSta wE mb lb n D LV a b vl dg 3 vs W) : ∃ (z : Value) (st : Int) (W1 : World), (Instr.mapEntry 177 (.map (some mb)) (.agg #[.int .i64 a, .int .i64 b])).run Tryz.prog W = .ok (.tuple #[z, .int .i64 st]) W1 ∧ W.grownBy W1 (some mb) ∧ ∀ vs', vs' 112 = .tuple #[z, .int .i64 st] → PutSta wE mb lb n D LV a b vl dg 4 vs' W1 := by
  obtain ⟨h1, h2, h3⟩ := h
  obtain ⟨q, hq⟩ := grp_key ha hb
  obtain ⟨z, st, W1, r1, g1, e1⟩ := h3.entry grp_law (T := 177) (E := 182) Tryz.underlying177 (z := .agg #[.int .i64 0, .int .i64 0, .int .i64 0, .int .i64 0]) (fun u => by kernel_rfl) (by omega) hq
  exact ⟨z, st, W1, r1, g1, fun vs' hv => ⟨h1.trans (Turned.one g1), h2.kept g1 (fun e => hne (Option.some.inj e).symm), ⟨z, st, hv, e1⟩⟩⟩
omit hn ha hb in
theorem PutSta.s2 {W : World} {vs : Nat → Value} (h : PutSta wE mb lb n D LV a b vl dg 2 vs W) : ∃ (st : Int) (W1 : World), vs 111 = .int .i64 st ∧ (Instr.entryStore 178 (.map (some lb)) (.int .i64 st) vl).run Tryz.prog W = .ok () W1 ∧ W.grownBy W1 (some lb) ∧ ∀ vs', PutSta wE mb lb n D LV a b vl dg 3 vs' W1 := by
  obtain ⟨h1, ⟨st, h2, o, h3, h4⟩, h5⟩ := h
  obtain ⟨W1, r1, m1, g1⟩ := h4 W h3 vl (grpM (updP LV a b (some vl))) (by unfold gkey; rw [grpM_at, updP_same]) (fun key' l' hk' hne' => grpM_upd (fun x y hxy => updP_other _ _ hxy) hk' hne')
  exact ⟨st, W1, h2, r1, g1, fun vs' => ⟨h1.trans (Turned.two g1), m1, h5.kept g1 (fun e => hne (Option.some.inj e))⟩⟩
omit hn ha hb in
theorem PutSta.s5 {W : World} {vs : Nat → Value} (h : PutSta wE mb lb n D LV a b vl dg 5 vs W) : ∃ (st : Int) (W1 : World), vs 113 = .int .i64 st ∧ (Instr.entryStore 177 (.map (some mb)) (.int .i64 st) (digV dg)).run Tryz.prog W = .ok () W1 ∧ W.grownBy W1 (some mb) ∧ ∀ vs', PutSta wE mb lb n D LV a b vl dg 6 vs' W1 := by
  obtain ⟨h1, h5, ⟨st, h2, o, h3, h4⟩⟩ := h
  obtain ⟨W1, r1, m1, g1⟩ := h4 W h3 (digV dg) (grpM fun x y => (updP D a b (some dg) x y).map digV) (by unfold gkey; rw [grpM_at, updP_same]; rfl) (fun key' l' hk' hne' => grpM_upd (fun x y hxy => by rw [updP_other _ _ hxy]) hk' hne')
  exact ⟨st, W1, h2, r1, g1, fun vs' => ⟨h1.trans (Turned.one g1), h5.kept g1 (fun e => hne (Option.some.inj e).symm), m1⟩⟩
end
theorem WayAt.done {wE W : World} {wb mb lb n : Nat} {D L : Int → Int → Option (List Int)} {LV : Int → Int → Option Value} {a b : Int} {vl : Value} {dg l : List Int} {vs : Nat → Value} (h : WayAt wE wb mb lb n D L) (hLV : ∀ x y, (L x y = none ∧ LV x y = none) ∨ ∃ v l, LV x y = some v ∧ L x y = some l ∧ Ints wE v l) (hv : Ints wE vl l) (hp : PutSta wE mb lb n D LV a b vl dg 6 vs W) : WayAt W wb mb lb (n + 1) (updP D a b (some dg)) (updP L a b (some l)) := by
  obtain ⟨hT, h2, h3⟩ := hp
  refine ⟨hT.blk h.blk h.n2 h.n3, h3, ⟨_, h2, fun x y => ?_⟩, h.n1, h.n2, h.n3⟩
  by_cases hxy : x = a ∧ y = b
  · obtain ⟨rfl, rfl⟩ := hxy
    rw [updP_same, updP_same]
    exact .inr ⟨vl, l, rfl, rfl, h.ints_kept hT hv⟩
  · rw [updP_other _ _ hxy, updP_other _ _ hxy]
    exact (hLV x y).elim .inl fun ⟨v, l, e1, e2, e3⟩ => .inr ⟨v, l, e1, e2, h.ints_kept hT e3⟩
end Go.Proofs.YtfepefbehgbjpaaGreatDoor
end
section
namespace Go.Proofs.YtfepefbehgbjpaaGreatDoor
open Go.RowKit Go.Att
set_option maxRecDepth 100000 in
set_option maxHeartbeats 4000000 in
theorem rdrawn2_any (p : Int) (k : Nat) (D : List Int) (b : Nat) (w : World) (h23 : 23 ≤ p) (hp2 : p ≤ 2147483647) (hk : IsPw p k) (hc : ChD w b p D) (hl : D.length = 4) (n : Int) (h1 : 1 ≤ n) (hn : n ≤ 65536) (m : Nat) (hm : m ≤ 64) (hm1 : 1 ≤ m) :
    Calls Tryz.prog 52 #[.pointer (some ⟨b, 0, none⟩), .int .i64 n, .int .i64 m] w fun e w' => ∃ v, e = .returned v ∧ w.grownBy w' (some b) ∧ (ChD w' b p (drwS p k D m) ∧ DigNew w w' b) ∧ w'.ownsRow w.heap.size 3 1 v (onceL (plcL p k D n m)).length ((onceL (plcL p k D n m)).map (Value.int .i64)) := by
  have hlt := hc.lt
  have HC := Lib.hid hc; have HK := Lib.hid hk
  clear hc hk
  go_enter Tryz.func52, Tryz.ntmps52
  go_wp2_with fail
  go_loopw [7, 8, 9] (fun x7 x8 _ wr => ∃ i : Nat, i ≤ m ∧ x8 = .int .i64 i ∧ Hid (wr.ownsRow w.heap.size 3 1 x7 i ((plcL p k D n i).map (Value.int .i64))) ∧ Hid (w.grownBy wr (some b)) ∧ Hid (ChD wr b p (drwS p k D i)) ∧ Hid (i = 0 ∨ DigNew w wr b)) (fun _ x8 _ _ => m - (intOf x8).toNat)
  case atStart => exact ⟨0, Nat.zero_le _, rfl, Lib.hid (World.ownsRow_nil _ _ _ _), Lib.hid (World.grownBy.refl _ _), HC, Lib.hid (.inl rfl)⟩
  case round =>
    obtain ⟨i, hi, rfl, HO, HG, HCI, HDI⟩ := hrel
    by_cases hin : i < m
    · have hDl := drwS_length p k hl i
      have hsz := HG.out.size
      have HPL := Lib.hid (plcL_snoc p k D n i)
      have CP := Lib.hid (rplace_any p k (drwS p k D i) b wr h23 hp2 HK.out HCI.out (by omega) n h1 hn)
      have HST : Hid (stepP p k 4 (drwS p k D i) [] = drwS p k D (i + 1)) := Lib.hid rfl
      rw [HST.out] at CP
      obtain ⟨z, hz⟩ : ∃ z, plcV p (drwS p k D (i + 1)) n = z := ⟨_, rfl⟩
      rw [hz] at CP HPL
      clear hz
      go_wp2_with (first | (go_at_call 105; refine CP.out.mono ?_; rintro e w3 ⟨rfl, hg3, hc3, hd3⟩; have HD3 := Lib.hid hd3; have HG3 := Lib.hid (HG.out.trans hg3); have HC3 := Lib.hid hc3; have HO3 := own_low HO.out hg3 hlt; have hs3 := hg3.size; clear hg3 hc3 hd3) | (at_builtin; refine wpList_appNw rfl _ _ 22 rfl slInts rfl (by omega) HO3 rfl #[.int .i64 z] rfl (by intro u hu; simp at hu; subst hu; rfl) rfl (by omega) (by omega) ?_; intro v7 w7 HO7 HG7 _))
      have HC7 := Lib.hid (HC3.out.grown HG7 (fun e => by have := (HO3.lt _ e.symm).1; omega) (fun v hv q hq e => by have h5 := HD3.out v hv q hq; have h6 := (HO.out.lt _ e.symm).2; omega))
      have HD7 := Lib.hid (fun v hv q hq => by
        obtain ⟨v3, h1, -⟩ := HC3.out.c1
        have h2 := HG7.cell h1 (fun e => by have := (HO3.lt _ e.symm).1; simp only at this; omega)
        rw [h2] at hv
        obtain rfl := Option.some.inj hv
        have h5 := HD3.out _ h1 q hq
        exact Nat.le_trans hsz h5 : DigNew w _ b)
      go_roundw
      case rel => exact ⟨i + 1, by omega, by go_num, Lib.hid (by rw [HPL.out, List.map_append]; exact HO7), Lib.hid (grown_low HG3.out HG7 (fun q hq => (HO3.lt q hq).1)), HC7, Lib.hid (.inr HD7.out)⟩
      case measure => simp [intOf]; omega
    · obtain rfl : i = m := by omega
      have hsz := HG.out.size
      have CO := Lib.hid (once_any (Ints.of_own HO.out) (by rw [plcL_length]; omega))
      go_wp2_with (go_at_call 106; refine CO.out.mono ?_; rintro e w4 ⟨v4, rfl, hx4, ho4⟩)
      go_ret
      exact ⟨_, rfl, HG.out.trans (hx4.grownBy _), ⟨HCI.out.ext hx4, (by
        have hdn : DigNew w wr b := HDI.out.resolve_left (by omega)
        intro v hv q hq
        obtain ⟨v3, h1, -⟩ := HCI.out.c1
        rw [hx4.cell h1] at hv
        obtain rfl := Option.some.inj hv
        exact hdn _ h1 q hq)⟩, ⟨ho4.1, by
        rcases ho4.2 with h | ⟨g, cap, cur, hv, hb, hr⟩
        · exact .inl h
        · exact .inr ⟨g, cap, cur, hv, by omega, hr⟩⟩⟩
end Go.Proofs.YtfepefbehgbjpaaGreatDoor
end
