/- What shows a table at a point, the document's side: attestref12.Open: contract. Printed by wip/mkol.py. -/
import Derived.Test.YtfepefbehgbjpaaGreatDoorOk
import Derived.Test.YtfepefbehgbjpaaGreatDoorZx15
import Derived.Test.YtfepefbehgbjpaaGreatDoorOh
import Derived.Test.YtfepefbehgbjpaaGreatDoorOj
import Derived.Test.YtfepefbehgbjpaaGreatDoorNs
namespace Go.Att
open Go.RowKit
theorem chd_keep {W W' : World} {b c : Nat} {p : Int} {D : List Int} (h : ChD W b p D) (hg : W.grownBy W' (some c)) (hbc : b ≠ c) (hd : ∀ v, W.cell? ⟨b, 1, none⟩ = some v → ∀ q, v.ownBlock = some q → q ≠ c) : ChD W' b p D := by
  obtain ⟨v, h1, h2⟩ := h.c1
  have hb := World.block_lt_of_cell? W _ h.c0
  have e := hg.block b hb (fun e => hbc (Option.some.inj e))
  exact ⟨by rw [World.cell?_of_block (a := ⟨b, 0, none⟩) e]; exact h.c0, ⟨v, by rw [World.cell?_of_block (a := ⟨b, 1, none⟩) e]; exact h1, h2.grown hg (fun q hq e => hd v h1 q hq (Option.some.inj e))⟩, by rw [World.frozen?_of_block (a := ⟨b, 1, none⟩) e]; exact h.f1⟩
theorem addc_fof (p c : Int) : ∀ s q : List Int, addc p c s (q.map (fof p)) = addc p c s q
  | [], _ => by cases ‹List Int› <;> rfl
  | _ :: _, [] => rfl
  | s :: ss, q :: qs => by
    rw [List.map_cons, addc, addc, addc_fof p c ss qs]
    congr 1
    unfold fadd fmul fof
    rw [Int.mul_emod, Int.emod_emod_of_dvd _ (Int.dvd_refl p), ← Int.mul_emod]
theorem mxU_fof (p : Int) (f : Nat → Int) (rows rows' : List (List Int)) (m : Nat) : ∀ i, (∀ j, j < i → nthL rows j = (nthL rows' j).map (fof p)) → mxU p f rows m i = mxU p f rows' m i
  | 0, _ => rfl
  | i + 1, h => by rw [mxU, mxU, mxU_fof p f rows rows' m i (fun j hj => h j (by omega)), h i (by omega), addc_fof]
theorem oMix_raw (p : Int) (f : Nat → Int) (v : Nat) (t : List Int) : oMix p f v t = mxU p f (rowsL t (2 ^ (v - v / 2)) (2 ^ (v / 2))) (2 ^ (v - v / 2)) (2 ^ (v / 2)) := by
  unfold oMix
  refine mxU_fof p f _ _ _ _ fun j hj => ?_
  rw [rowsL_nth _ _ _ _ hj, rowsL_nth _ _ _ _ hj, ← List.map_drop, ← List.map_take]
end Go.Att
namespace Go.Proofs.YtfepefbehgbjpaaGreatDoor
open Go.RowKit Go.Att
section
variable {w0 w : World} {cb : Nat} {p : Int} {k : Nat} {D : List Int} {va vt : Value} {at_ t : List Int} {sh rt : Int}
set_option maxRecDepth 100000 in
set_option maxHeartbeats 16000000 in
theorem rpopen_ok (h23 : 23 ≤ p) (hp2 : p ≤ 2147483647) (hk : IsPw p k) (hsh : 0 ≤ sh ∧ sh < p) (n : Nat) (hn1 : 1 ≤ n) (hn2 : n ≤ 65536) (v : Nat) (hv : v ≤ 12) (hav : at_.length = v) (ht : t.length = 2 ^ v) (asked : Nat) (ha1 : 1 ≤ asked) (ha2 : asked ≤ 64) (hx0 : Ext w0 w) (hb : w0.heap.size ≤ cb) (ha : Ints w0 va at_) (hvt : Ints w0 vt t) (hc : ChD w cb p D) (hD : D.length = 4) :
    Calls Tryz.prog 13 #[.pointer (some ⟨cb, 0, none⟩), .agg #[.int .i64 p, .int .i64 n, .int .i64 sh, .int .i64 rt], vt, va, .int .i64 asked] w fun e w' => ∃ r0 r1 r2 r3 r4 r5, e = .returned (.tuple #[.agg #[r0, r1, r2, r3, r4, r5], .int .i64 (plN p (v / 2) (v - v / 2) at_ (opn p sh rt k n D v at_ asked t))]) ∧ w.grownBy w' (some cb) ∧ ChD w' cb p (drwS p k (plD5 p k D (opn p sh rt k n D v at_ asked t) at_) asked) ∧ PldAt w' r0 r1 r2 r3 r4 r5 (opn p sh rt k n D v at_ asked t) ∧ DigNew w w' cb := by
  have hla := ha.run_len (P := Tryz.prog) slInts
  rw [hav] at hla
  have hq2 : (v : Int).tdiv 2 = ((v / 2 : Nat) : Int) := by rw [Int.tdiv_eq_ediv_of_nonneg (by omega)]; omega
  have hv12 : (v : Int) ≤ 12 := by omega
  have HA := Lib.hid ha; have HAV := Lib.hid hav; have HVT := Lib.hid hvt; have HTL := Lib.hid ht; have HPK := Lib.hid hk
  have CRW := Lib.hid (fun W (hx : Ext w0 W) => rrowsN_any (hvt.ext hx) v hv ht)
  have CCL := Lib.hid (fun (W : World) (vr : Value) (hr : Rws W vr (rowsL t (2 ^ (v - v / 2)) (2 ^ (v / 2)))) => by
    obtain ⟨R, hR⟩ := hr
    exact rcolsN_any (p := p) (sh := sh) (r := rt) (by omega) hp2 hsh n hn1 hn2 hR (by rw [rowsL_length]; exact pow12 (by omega)))
  have HCN := Lib.hid (show (oCol p sh rt n v t).length = n from colsL_length _ _ _ _ _)
  have HCW := Lib.hid (show ∀ i, i < (oCol p sh rt n v t).length → (nthL (oCol p sh rt n v t) i).length ≤ 4096 from fun i hi => by rw [HCN.out] at hi; unfold oCol; rw [colsL_row _ _ _ _ _ _ hi, rowsL_length]; exact pow12 (by omega))
  have CRT := Lib.hid (fun (W : World) (vr : Value) (hr : Rws W vr (oCol p sh rt n v t)) => by
    obtain ⟨R, hR⟩ := hr
    have := rrootN_any h23 hp2 hk n W vr _ R hR (by rw [HCN.out]; exact hn1) (by rw [HCN.out]; exact Nat.le_refl _) (by rw [HCN.out]; exact hn2) (fun i hi => by have := HCW.out i hi; omega)
    rw [show rootF p k n (oCol p sh rt n v t) = tabR p sh rt k n v t from rfl] at this
    exact this)
  have hX := (Ext.alloc w (Obj.cells #[.int .i64 p, .int .i64 n, .int .i64 sh, .int .i64 rt] 39)).trans (Ext.alloc _ (Obj.cells #[.slice none 0 0, .slice none 0 0, .slice none 0 0, .slice none 0 0, .slice none 0 0, .slice none 0 0] 33))
  have hK1x := (BlkOf.new w [.int .i64 p, .int .i64 n, .int .i64 sh, .int .i64 rt] 39).ext (Ext.alloc _ (Obj.cells #[.slice none 0 0, .slice none 0 0, .slice none 0 0, .slice none 0 0, .slice none 0 0, .slice none 0 0] 33))
  have hK2 := BlkOf.new (w.alloc (Obj.cells #[.int .i64 p, .int .i64 n, .int .i64 sh, .int .i64 rt] 39)) [.slice none 0 0, .slice none 0 0, .slice none 0 0, .slice none 0 0, .slice none 0 0, .slice none 0 0] 33
  rw [World.size_alloc] at hK2
  have HS := Lib.hid (show DocS w0 w.heap.size [.int .i64 p, .int .i64 n, .int .i64 sh, .int .i64 rt] [.slice none 0 0, .slice none 0 0, .slice none 0 0, .slice none 0 0, .slice none 0 0, .slice none 0 0] _ from ⟨hx0.trans hX, hK1x, hK2⟩)
  have G1 := Lib.hid (hX.grownBy (some cb))
  have C1 := Lib.hid (hc.ext hX)
  have HCB := Lib.hid hc.lt
  have HD := Lib.hid hD; have HB := Lib.hid hb
  obtain ⟨o, ho⟩ : ∃ o, opn p sh rt k n D v at_ asked t = o := ⟨_, rfl⟩
  have HO0 := Lib.hid (show o.root = tabR p sh rt k n v t from by rw [← ho]; rfl)
  have HO1 := Lib.hid (show o.mixed = oMix p (fun i => fpow p (oR p k D o.root at_) i) v t from by rw [← ho]; rfl)
  have HO2 := Lib.hid (show o.point = oMix p (fun i => wgt (at_.take (v / 2)) i % p) v t from by rw [← ho]; rfl)
  have HO3 := Lib.hid (show o.places = plL p k D o at_ n asked from by rw [← ho]; rfl)
  have HO4 := Lib.hid (show o.rows = shoR p (oCol p sh rt n v t) o.places o.places.length from by rw [← ho]; rfl)
  have HO5 := Lib.hid (show o.nodes = nodL p k o.places (oCol p sh rt n v t) n 0 n from by rw [← ho]; rfl)
  have HVA := Lib.hid (show ∀ q, vt.ownBlock = some q → q < w0.heap.size from fun q hq => ints_blk hvt (by rw [ht]; exact Nat.one_le_two_pow) hq)
  have HRL := Lib.hid (show (tabR p sh rt k n v t).length = 4 from by
    obtain ⟨m, rfl⟩ : ∃ m, n = m + 1 := ⟨n - 1, by omega⟩
    unfold tabR; simp only [rootF]; split <;> exact hashP_length _ _ _)
  have HLB := Lib.hid (show at_.length ≤ 100 ∧ 2 ^ (v - v / 2) ≤ 4096 from ⟨by omega, pow12 (by omega)⟩)
  obtain ⟨a, hae⟩ : ∃ a, v / 2 = a := ⟨_, rfl⟩
  have HLA := Lib.hid hae
  have HAC := Lib.hid (show a ≤ v ∧ a ≤ 6 ∧ v - a ≤ 6 from by omega)
  rw [hae] at hq2
  have hab : (0 : Int) ≤ a ∧ (a : Int) ≤ 6 := by omega
  rw [ho]
  clear hae ho ha hav hvt ht hk hX hK1x hK2 hc hD hx0 hb
  go_enter Tryz.func13, Tryz.ntmps13
  go_upto_region 1 with (fail)
  generalize (w.alloc (Obj.cells #[.int .i64 p, .int .i64 n, .int .i64 sh, .int .i64 rt] 39)).alloc (Obj.cells #[.slice none 0 0, .slice none 0 0, .slice none 0 0, .slice none 0 0, .slice none 0 0, .slice none 0 0] 33) = W1 at *
  generalize hqw : w.heap.size = q at *
  have HQW := Lib.hid hqw
  clear hqw
  have HQ1 := Lib.hid (show q + 1 < W1.heap.size from HS.out.o.lt)
  have k0 : W1.cell? ⟨q, 0, none⟩ = some (.int .i64 p) := HS.out.d.cell 0
  go_upto_region 5 with (go_at_call 45; refine (CRW.out _ HS.out.x).mono ?_; rintro e w5 ⟨v5, rfl, hx5, hr5⟩; have HX5 := Lib.hid hx5; have HR5 := Lib.hid hr5; clear hx5 hr5)
  clear k0
  have k0 : w5.cell? ⟨q, 0, none⟩ = some (.int .i64 p) := (HS.out.ext HX5.out).d.cell 0
  have k1 : w5.cell? ⟨q, 1, none⟩ = some (.int .i64 n) := (HS.out.ext HX5.out).d.cell 1
  have k2 : w5.cell? ⟨q, 2, none⟩ = some (.int .i64 sh) := (HS.out.ext HX5.out).d.cell 2
  have k3 : w5.cell? ⟨q, 3, none⟩ = some (.int .i64 rt) := (HS.out.ext HX5.out).d.cell 3
  have hr5l : ∀ ty w', (Builtin.len_ #[29] ty #[v5]).run Tryz.prog w' = .ok (.int .i64 ((2 ^ (v / 2) : Nat) : Int)) w' := by
    obtain ⟨T, h1, -⟩ := HR5.out
    have := h1.run_len (P := Tryz.prog) slRows
    rw [rowsL_length] at this
    exact this
  go_upto_region 6 with (go_at_call 46; refine (CCL.out _ _ (let ⟨T, h1, _⟩ := HR5.out; ⟨T, h1⟩)).mono ?_; rintro e w6 ⟨v6, rfl, hx6, hr6⟩; have HX6 := Lib.hid hx6; have HR6 : Hid (RwsN w5.heap.size w6 v6 (oCol p sh rt n v t)) := Lib.hid hr6; clear hx6 hr6)
  clear k0 k1 k2 k3
  have SB := Lib.hid ((HS.out.ext HX5.out).ext HX6.out)
  have G07 := Lib.hid (grown_one G1.out ((HX5.out.trans HX6.out).grownBy _))
  have CB7 := Lib.hid ((C1.out.ext HX5.out).ext HX6.out)
  have RB := Lib.hid (HR5.out.ext HX6.out)
  have LB := Lib.hid (HR6.out.base HX5.out.size)
  have HW6 := Lib.hid (show W1.heap.size ≤ w6.heap.size from (HX5.out.trans HX6.out).size)
  clear HS G1 C1 HR5 HR6 HX5 HX6 CRW CCL
  have O8 := Lib.hid (BlkOf.new w6 [.slice none 0 0, .slice none 0 0, .slice none 0 0, .slice none 0 0, .slice none 0 0, .slice none 0 0] 33)
  have HX8 := Lib.hid (Ext.alloc w6 (Obj.cells #[.slice none 0 0, .slice none 0 0, .slice none 0 0, .slice none 0 0, .slice none 0 0, .slice none 0 0] 33))
  have hs8 : (w6.alloc (Obj.cells #[.slice none 0 0, .slice none 0 0, .slice none 0 0, .slice none 0 0, .slice none 0 0, .slice none 0 0] 33)).heap.size = w6.heap.size + 1 := World.size_alloc _ _
  have HCQ := Lib.hid (show cb < q ∧ q + 1 < w6.heap.size ∧ w0.heap.size ≤ cb ∧ cb < W1.heap.size from by have h1 := HCB.out; have h2 := HQ1.out; have h3 := HW6.out; have h4 := HQW.out; have h5 := HB.out; omega)
  have HSW := Lib.hid (fun W (hg : w6.grownBy W (some cb)) => SB.out.grown hg HB.out HCQ.out.1)
  have HRW := Lib.hid (fun W (hg : w6.grownBy W (some cb)) => RB.out.grown hg HCQ.out.2.2.2 (fun q' hq => by have := HVA.out q' hq; have := HCQ.out; omega))
  have HLW := Lib.hid (fun W (hg : w6.grownBy W (some cb)) => LB.out.grown hg HCQ.out.2.2.2)
  have G8 := Lib.hid (HX8.out.grownBy (some cb))
  have C8 := Lib.hid (CB7.out.ext HX8.out)
  go_upto_region 7 with (fail)
  generalize w6.alloc (Obj.cells #[.slice none 0 0, .slice none 0 0, .slice none 0 0, .slice none 0 0, .slice none 0 0, .slice none 0 0] 33) = w8 at *
  have HX8b := Lib.hid HX8.out
  clear HX8 SB RB LB
  obtain ⟨ob, hob⟩ : ∃ ob, w6.heap.size = ob := ⟨_, rfl⟩
  have HOW := Lib.hid hob
  have Z8 := Lib.hid (show ob + 1 ≤ w8.heap.size from by omega)
  have HOB := Lib.hid (show cb < ob ∧ q + 1 < ob from by have := HCQ.out; omega)
  rw [hob] at O8 ⊢
  clear hob hs8
  have z0 : w8.cell? ⟨ob, 0, none⟩ = some (.slice none 0 0) := O8.out.cell 0
  go_upto_region 8 with (go_at_call 47; refine (CRT.out _ _ (HLW.out _ G8.out).rws).mono ?_; rintro e w9 ⟨v9, rfl, hx, hi, hn, ho⟩; obtain ⟨a7, c7, e7⟩ := hi.shape; rw [HRL.out] at e7; subst e7; have HX9 := Lib.hid hx; have HI9 := Lib.hid hi; have HN9 := Lib.hid hn; have z1 := hx.cell z0; have z2 := (O8.out.ext hx).free 0; clear hx hi hn ho)
  have GA := Lib.hid (grown_low (grown_one G8.out (HX9.out.grownBy _)) (setCell_grown w9 ob 0 (.slice a7 4 c7)) (fun k hk => by cases hk; exact Nat.le_of_eq HOW.out))
  have PA := Lib.hid (show ∀ q', (Value.slice a7 4 c7).ownBlock = some q' → ob < q' from fun q' hq => by have h1 := HN9.out q' hq; have h2 := Z8.out; omega)
  have CA := Lib.hid (chd_keep (C8.out.ext HX9.out) (setCell_grown w9 ob 0 (.slice a7 4 c7)) (by have := HOB.out; omega) (fun v hv q' hq e => by
    obtain ⟨v2, h1, h2⟩ := (CB7.out).c1
    rw [(HX8b.out.trans HX9.out).cell h1] at hv
    obtain rfl := Option.some.inj hv
    have h3 := ints_blk h2 (by rw [HD.out]; omega) hq
    have h4 := HOW.out; omega))
  have OA := Lib.hid ((O8.out.ext HX9.out).set 0 (.slice a7 4 c7))
  have ZA := Lib.hid (Nat.le_trans Z8.out (Nat.le_trans HX9.out.size (setCell_grown w9 ob 0 (.slice a7 4 c7)).size))
  have IA := Lib.hid (HI9.out.cell3 (b := ob) (fun q' hq => by have := PA.out q' hq; omega) 0 (.slice a7 4 c7))
  clear z0 z1 z2 G8 C8 O8 Z8 HX9 HI9 HN9 CRT CB7 HX8b
  generalize w9.setCell ⟨ob, 0, none⟩ (.slice a7 4 c7) = wA at *
  have m0 : wA.cell? ⟨ob, 0, none⟩ = some (.slice a7 4 c7) := OA.out.cell 0
  go_upto_region 9 with (go_at_call 44; refine (rstep_any p k 3 (.slice a7 4 c7) (tabR p sh rt k n v t) D cb _ h23 hp2 HPK.out CA.out IA.out (by rw [HD.out, HRL.out]; omega)).mono ?_; rintro e wB ⟨rfl, hg, hcc, hdg⟩; have GB := Lib.hid (grown_one GA.out hg); have CB := Lib.hid hcc; have ZB := Lib.hid (Nat.le_trans ZA.out hg.size); have NB : Hid (∀ v, wB.cell? ⟨cb, 1, none⟩ = some v → ∀ q', v.ownBlock = some q' → ob < q') := Lib.hid (fun v hv q' hq => by have h1 := hdg v hv q' hq; have h2 := ZA.out; omega); have OB := Lib.hid (OA.out.grown hg (fun e => by have := HOB.out; have := Option.some.inj e; omega)); have IB := Lib.hid (IA.out.grown hg (fun q' hq e => by have := PA.out q' hq; have := HOB.out; have := Option.some.inj e; omega)); clear hg hcc hdg)
  clear m0 GA CA ZA OA IA
  go_upto_region 10 with (go_at_call 44; refine (rstep_any p k 3 va at_ (stepP p k 3 D (tabR p sh rt k n v t)) cb _ h23 hp2 HPK.out CB.out (HA.out.ext (HSW.out _ GB.out).x) (by rw [stepP_length]; have := HLB.out; omega)).mono ?_; rintro e wC ⟨rfl, hg, hcc, hdg⟩; have GC := Lib.hid (grown_one GB.out hg); have CC := Lib.hid hcc; have ZC := Lib.hid (Nat.le_trans ZB.out hg.size); have NC : Hid (∀ v, wC.cell? ⟨cb, 1, none⟩ = some v → ∀ q', v.ownBlock = some q' → ob < q') := Lib.hid (fun v hv q' hq => by have h1 := hdg v hv q' hq; have h2 := ZB.out; omega); have OC := Lib.hid (OB.out.grown hg (fun e => by have := HOB.out; have := Option.some.inj e; omega)); have IC := Lib.hid (IB.out.grown hg (fun q' hq e => by have := PA.out q' hq; have := HOB.out; have := Option.some.inj e; omega)); clear hg hcc hdg)
  clear GB CB ZB OB NB IB
  obtain ⟨rr, hrr⟩ : ∃ rr, oR p k D (tabR p sh rt k n v t) at_ = rr := ⟨_, rfl⟩
  have CDR := Lib.hid (rdraw_any p k (stepP p k 3 (stepP p k 3 D (tabR p sh rt k n v t)) at_) cb _ h23 hp2 HPK.out CC.out (by rw [stepP_length]; omega))
  rw [show nth (stepP p k 4 (stepP p k 3 (stepP p k 3 D (tabR p sh rt k n v t)) at_) []) 0 = rr from hrr] at CDR
  have HRR := Lib.hid hrr
  clear hrr
  go_upto_region 11 with (go_at_call 48; refine CDR.out.mono ?_; rintro e wD ⟨rfl, hg, hcc, hdg⟩; have GD := Lib.hid (grown_one GC.out hg); have CD := Lib.hid hcc; have ZD := Lib.hid (Nat.le_trans ZC.out hg.size); have ND : Hid (∀ v, wD.cell? ⟨cb, 1, none⟩ = some v → ∀ q', v.ownBlock = some q' → ob < q') := Lib.hid (fun v hv q' hq => by have h1 := hdg v hv q' hq; have h2 := ZC.out; omega); have OD := Lib.hid (OC.out.grown hg (fun e => by have := HOB.out; have := Option.some.inj e; omega)); have ID := Lib.hid (IC.out.grown hg (fun q' hq e => by have := PA.out q' hq; have := HOB.out; have := Option.some.inj e; omega)); clear hg hcc hdg)
  clear GC CC ZC OC NC IC CDR
  have hrow : ∀ i, i < (rowsL t (2 ^ (v - v / 2)) (2 ^ (v / 2))).length → (nthL (rowsL t (2 ^ (v - v / 2)) (2 ^ (v / 2))) i).length = 2 ^ (v - v / 2) := fun i hi => by
    rw [rowsL_length] at hi
    rw [rowsL_nth _ _ _ _ hi, List.length_take, List.length_drop, HTL.out]
    have h1 : 2 ^ v = 2 ^ (v / 2) * 2 ^ (v - v / 2) := by rw [← Nat.pow_add]; congr 1; omega
    rw [h1]
    have h2 : (i + 1) * 2 ^ (v - v / 2) ≤ 2 ^ (v / 2) * 2 ^ (v - v / 2) := Nat.mul_le_mul_right _ hi
    rw [Nat.add_mul] at h2
    omega
  have HROW := Lib.hid hrow
  have HR1 := Lib.hid (show 0 < (rowsL t (2 ^ (v - v / 2)) (2 ^ (v / 2))).length from by rw [rowsL_length]; exact Nat.lt_of_lt_of_le Nat.zero_lt_one Nat.one_le_two_pow)
  have HP4 := Lib.hid (show 2 ^ (v / 2) ≤ 4096 from pow12 (by omega))
  clear hrow
  have CSM := Lib.hid (fun (W : World) (u : Value) (by_ : List Int) (f : Nat → Int) (hg : w6.grownBy W (some cb)) (hu : Ints W u by_) (hbl : 2 ^ (v / 2) ≤ by_.length) (hf : ∀ j, j < 2 ^ (v / 2) → nth by_ j = f j) => show Calls Tryz.prog 50 #[.int .i64 p, v5, u] W (Gives W fun u' w' => w'.ownsRow W.heap.size 3 1 u' (2 ^ (v - v / 2)) ((oMix p f v t).map (Value.int .i64))) from by
    obtain ⟨T, hT, -, -⟩ := HRW.out W hg
    have := rsumN_any (by omega) hp2 v5 u _ by_ T hT hu (2 ^ (v - v / 2)) HR1.out HROW.out (by have := HLB.out; omega) (by rw [rowsL_length]; exact hbl)
    rw [rowsL_length, mxU_congr p _ _ _ hf, ← oMix_raw] at this
    exact this)
  have CPW := Lib.hid (fun W => rpowers_any (w := W) (by omega) hp2 rr (2 ^ (v / 2)) (by have := HP4.out; omega))
  go_upto_region 12 with (go_at_call 49; refine (CPW.out _).mono ?_; rintro e wE ⟨vE, rfl, hx, hi⟩; have HXE := Lib.hid hx; have HIE := Lib.hid hi; clear hx hi)
  obtain ⟨M1, hM1⟩ : ∃ M1, oMix p (fun i => fpow p rr i) v t = M1 := ⟨_, rfl⟩
  have HM1 := Lib.hid hM1
  obtain ⟨Mc, hMc⟩ : ∃ Mc, 2 ^ (v - v / 2) = Mc := ⟨_, rfl⟩
  have HMC := Lib.hid hMc
  have CS1 := Lib.hid (by
    have := CSM.out wE vE _ (fun i => fpow p rr i) (grown_one GD.out (HXE.out.grownBy _)) HIE.out (by rw [powsL_length]; exact Nat.le_refl _) (fun j hj => powsL_nth p rr _ j hj)
    rw [hM1, hMc] at this
    exact this)
  have HL1 := Lib.hid (show M1.length = Mc from by rw [← hM1, ← hMc]; exact oMix_length _ _ _ _ HTL.out)
  clear hM1 hMc CPW
  have z0 : wE.cell? ⟨ob, 1, none⟩ = some (.slice none 0 0) := (OD.out.ext HXE.out).cell 1
  go_upto_region 13 with (go_at_call 50; refine CS1.out.mono ?_; rintro e wF ⟨vM, rfl, hx, hom⟩; obtain ⟨aM, cM, rfl⟩ := own_shape hom; have HXF := Lib.hid (HXE.out.trans hx); have HSF := Lib.hid HXE.out.size; have HOF := Lib.hid hom; have z1 := hx.cell z0; have z2 := ((OD.out.ext HXE.out).ext hx).free 1; clear hx hom)
  have GG := Lib.hid (grown_low (grown_one GD.out (HXF.out.grownBy _)) (setCell_grown wF ob 1 (.slice aM Mc cM)) (fun k hk => by cases hk; exact Nat.le_of_eq HOW.out))
  have hdi : ∀ v, wF.cell? ⟨cb, 1, none⟩ = some v → ∀ q', v.ownBlock = some q' → ob < q' := fun v hv q' hq => ND.out v (by
    obtain ⟨v2, h1, -⟩ := CD.out.c1
    rw [HXF.out.cell h1] at hv
    rw [h1]; exact hv) q' hq
  have CG := Lib.hid (chd_keep (CD.out.ext HXF.out) (setCell_grown wF ob 1 (.slice aM Mc cM)) (by have := HOB.out; omega) (fun v hv q' hq e => by have := hdi v hv q' hq; omega))
  have OG := Lib.hid ((OD.out.ext HXF.out).set 1 (.slice aM Mc cM))
  have ZG := Lib.hid (Nat.le_trans ZD.out (Nat.le_trans HXF.out.size (setCell_grown wF ob 1 (.slice aM Mc cM)).size))
  have PG := Lib.hid (show ∀ q', (Value.slice aM Mc cM).ownBlock = some q' → ob < q' from fun q' hq => by have h1 := (HOF.out.lt q' hq).1; have h2 := ZD.out; have h3 := HSF.out; omega)
  have JG := Lib.hid ((Ints.of_own HOF.out).cell3 (b := ob) (fun q' hq => by have := PG.out q' hq; omega) 1 (.slice aM Mc cM))
  have IG := Lib.hid ((ID.out.ext HXF.out).cell3 (b := ob) (fun q' hq => by have := PA.out q' hq; omega) 1 (.slice aM Mc cM))
  clear z0 z1 z2 hdi GD CD ZD OD ND ID HXE HIE HXF HSF HOF CS1
  generalize wF.setCell ⟨ob, 1, none⟩ (.slice aM Mc cM) = wG at *
  have m1 : wG.cell? ⟨ob, 1, none⟩ = some (.slice aM Mc cM) := OG.out.cell 1
  go_upto_region 14 with (go_at_call 44; refine (rstep_any p k 3 (.slice aM Mc cM) M1 (stepP p k 4 (stepP p k 3 (stepP p k 3 D (tabR p sh rt k n v t)) at_) []) cb _ h23 hp2 HPK.out CG.out JG.out (by rw [stepP_length, HL1.out]; have := HLB.out; have := HMC.out; omega)).mono ?_; rintro e wH ⟨rfl, hg, hcc, hdg⟩; have GH := Lib.hid (grown_one GG.out hg); have CH := Lib.hid hcc; have ZH := Lib.hid (Nat.le_trans ZG.out hg.size); have NH : Hid (∀ v, wH.cell? ⟨cb, 1, none⟩ = some v → ∀ q', v.ownBlock = some q' → ob < q') := Lib.hid (fun v hv q' hq => by have h1 := hdg v hv q' hq; have h2 := ZG.out; omega); have OH := Lib.hid (OG.out.grown hg (fun e => by have := HOB.out; have := Option.some.inj e; omega)); have IH := Lib.hid (IG.out.grown hg (fun q' hq e => by have := PA.out q' hq; have := HOB.out; have := Option.some.inj e; omega)); have JH := Lib.hid (JG.out.grown hg (fun q' hq e => by have := PG.out q' hq; have := HOB.out; have := Option.some.inj e; omega)); clear hg hcc hdg)
  clear m1 GG CG ZG OG IG JG
  have htk := HA.out.run_take (P := Tryz.prog) slInts a (by rw [HAV.out]; exact HAC.out.1)
  have htl : (at_.take a).length = a := by rw [List.length_take, HAV.out]; have := HAC.out; omega
  have CU := Lib.hid (by
    have := runits_any (w := wH) (by omega) hp2 ((HA.out.ext (HSW.out _ GH.out).x).take a (by rw [HAV.out]; exact HAC.out.1)) (by rw [htl]; have := HAC.out; omega)
    rw [htl] at this
    exact this)
  clear htl
  go_upto_region 15 with (go_at_call 51; refine CU.out.mono ?_; rintro e wI ⟨vI, rfl, hx, hi⟩; have HXI := Lib.hid hx; have HII := Lib.hid hi; clear hx hi)
  obtain ⟨M2, hM2⟩ : ∃ M2, oMix p (fun i => wgt (at_.take a) i % p) v t = M2 := ⟨_, rfl⟩
  have HM2 := Lib.hid hM2
  have CS2 := Lib.hid (by
    have := CSM.out wI vI _ (fun i => wgt (at_.take a) i % p) (grown_one GH.out (HXI.out.grownBy _)) HII.out (by rw [unitsL_length, HLA.out]; exact Nat.le_refl _) (fun j hj => unitsL_nth p _ (by rw [HLA.out] at hj; exact hj))
    rw [hM2, HMC.out] at this
    exact this)
  have HL2 := Lib.hid (show M2.length = Mc from by rw [← hM2, ← HMC.out]; exact oMix_length _ _ _ _ HTL.out)
  clear hM2 CU htk CSM
  have z0 : wI.cell? ⟨ob, 2, none⟩ = some (.slice none 0 0) := (OH.out.ext HXI.out).cell 2
  go_upto_region 16 with (go_at_call 50; refine CS2.out.mono ?_; rintro e wJ ⟨vP, rfl, hx, hom⟩; obtain ⟨aP, cP, rfl⟩ := own_shape hom; have HXJ := Lib.hid (HXI.out.trans hx); have HSJ := Lib.hid HXI.out.size; have HOJ := Lib.hid hom; have z1 := hx.cell z0; have z2 := ((OH.out.ext HXI.out).ext hx).free 2; clear hx hom)
  have GK := Lib.hid (grown_low (grown_one GH.out (HXJ.out.grownBy _)) (setCell_grown wJ ob 2 (.slice aP Mc cP)) (fun k hk => by cases hk; exact Nat.le_of_eq HOW.out))
  have hdi : ∀ v, wJ.cell? ⟨cb, 1, none⟩ = some v → ∀ q', v.ownBlock = some q' → ob < q' := fun v hv q' hq => NH.out v (by
    obtain ⟨v2, h1, -⟩ := CH.out.c1
    rw [HXJ.out.cell h1] at hv
    rw [h1]; exact hv) q' hq
  have CK := Lib.hid (chd_keep (CH.out.ext HXJ.out) (setCell_grown wJ ob 2 (.slice aP Mc cP)) (by have := HOB.out; omega) (fun v hv q' hq e => by have := hdi v hv q' hq; omega))
  have OK := Lib.hid ((OH.out.ext HXJ.out).set 2 (.slice aP Mc cP))
  have ZK := Lib.hid (Nat.le_trans ZH.out (Nat.le_trans HXJ.out.size (setCell_grown wJ ob 2 (.slice aP Mc cP)).size))
  have PK := Lib.hid (show ∀ q', (Value.slice aP Mc cP).ownBlock = some q' → ob < q' from fun q' hq => by have h1 := (HOJ.out.lt q' hq).1; have h2 := ZH.out; have h3 := HSJ.out; omega)
  have LK := Lib.hid ((Ints.of_own HOJ.out).cell3 (b := ob) (fun q' hq => by have := PK.out q' hq; omega) 2 (.slice aP Mc cP))
  have IK := Lib.hid ((IH.out.ext HXJ.out).cell3 (b := ob) (fun q' hq => by have := PA.out q' hq; omega) 2 (.slice aP Mc cP))
  have JK := Lib.hid ((JH.out.ext HXJ.out).cell3 (b := ob) (fun q' hq => by have := PG.out q' hq; omega) 2 (.slice aP Mc cP))
  clear z0 z1 z2 hdi GH CH ZH OH NH IH JH HXI HII HXJ HSJ HOJ CS2
  generalize wJ.setCell ⟨ob, 2, none⟩ (.slice aP Mc cP) = wK at *
  have m2 : wK.cell? ⟨ob, 2, none⟩ = some (.slice aP Mc cP) := OK.out.cell 2
  go_upto_region 17 with (go_at_call 44; refine (rstep_any p k 3 (.slice aP Mc cP) M2 (stepP p k 3 (stepP p k 4 (stepP p k 3 (stepP p k 3 D (tabR p sh rt k n v t)) at_) []) M1) cb _ h23 hp2 HPK.out CK.out LK.out (by rw [stepP_length, HL2.out]; have := HLB.out; have := HMC.out; omega)).mono ?_; rintro e wL ⟨rfl, hg, hcc, hdg⟩; have GL := Lib.hid (grown_one GK.out hg); have CL := Lib.hid hcc; have ZL := Lib.hid (Nat.le_trans ZK.out hg.size); have NL : Hid (∀ v, wL.cell? ⟨cb, 1, none⟩ = some v → ∀ q', v.ownBlock = some q' → ob < q') := Lib.hid (fun v hv q' hq => by have h1 := hdg v hv q' hq; have h2 := ZK.out; omega); have OL := Lib.hid (OK.out.grown hg (fun e => by have := HOB.out; have := Option.some.inj e; omega)); have IL := Lib.hid (IK.out.grown hg (fun q' hq e => by have := PA.out q' hq; have := HOB.out; have := Option.some.inj e; omega)); have JL := Lib.hid (JK.out.grown hg (fun q' hq e => by have := PG.out q' hq; have := HOB.out; have := Option.some.inj e; omega)); have LL := Lib.hid (LK.out.grown hg (fun q' hq e => by have := PK.out q' hq; have := HOB.out; have := Option.some.inj e; omega)); clear hg hcc hdg)
  clear m2 GK CK ZK OK IK JK LK
  have E1 : o.mixed = M1 := by rw [HO1.out, HO0.out, HRR.out]; exact HM1.out
  have E2 : o.point = M2 := by rw [HO2.out, HLA.out]; exact HM2.out
  have HD5 : stepP p k 3 (stepP p k 3 (stepP p k 4 (stepP p k 3 (stepP p k 3 D (tabR p sh rt k n v t)) at_) []) M1) M2 = plD5 p k D o at_ := by unfold plD5 plD3 plD2; rw [E1, E2, HO0.out]
  have CL5 := Lib.hid (show ChD wL cb p (plD5 p k D o at_) from by rw [← HD5]; exact CL.out)
  have HE1 := Lib.hid E1; have HE2 := Lib.hid E2
  clear CL E1 E2 HD5 NL
  have HL5 := Lib.hid (show (plD5 p k D o at_).length = 4 from stepP_length _ _ _ _ _)
  have CDW := Lib.hid (rdrawn2_any p k (plD5 p k D o at_) cb wL h23 hp2 HPK.out CL5.out HL5.out n (by omega) (by omega) asked ha2 ha1)
  have CTO : Hid (∀ W vL, w6.grownBy W (some cb) → Ints W vL (plL p k D o at_ n asked) → Calls Tryz.prog 53 #[.int .i64 p, v6, vL] W (Gives W fun u w' => ∃ a b c, u = .agg #[a, b, c] ∧ Ints w' a o.places ∧ NewIn W a ∧ RwsN W.heap.size w' b o.rows ∧ RwsN W.heap.size w' c o.nodes)) := Lib.hid fun W vL hg hi => by
    obtain ⟨T, hT, -, -⟩ := HLW.out W hg
    have := ropen5_any h23 hp2 HPK.out hT (by rw [HCN.out]; exact hn1) (by rw [HCN.out]; exact hn2) (fun i hi => by have := HCW.out i hi; omega) hi (by have := plL_len (p := p) (k := k) (D := D) (o := o) (at_ := at_) (n := (n : Int)) (asked := asked); omega) (fun x hx => by rw [HCN.out]; exact plL_all (by omega) x hx)
    rw [HCN.out, show onceL (plL p k D o at_ n asked) = plL p k D o at_ n asked from once_once _, ← HO3.out, ← HO4.out, ← HO5.out] at this
    exact this
  have k1 : wL.cell? ⟨q, 1, none⟩ = some (.int .i64 n) := (HSW.out _ GL.out).d.cell 1
  go_upto_region 18 with (go_at_call 52; refine CDW.out.mono ?_; rintro e wM ⟨vL, rfl, hg, ⟨hch, hdn⟩, hom⟩; have HDM := Lib.hid hdn; clear hdn; have HKM := Lib.hid hg; have GM := Lib.hid (grown_one GL.out hg); have CM := Lib.hid hch; have IM : Hid (Ints wM vL (plL p k D o at_ n asked)) := Lib.hid (Ints.of_own hom); clear hg hch hom)
  have OM := Lib.hid (OL.out.grown HKM.out (fun e => by have := HOB.out; have := Option.some.inj e; omega))
  clear k1 CDW
  have z3 : wM.cell? ⟨ob, 3, none⟩ = some (.slice none 0 0) := OM.out.cell 3
  go_upto_region 19 with (go_at_call 53; refine (CTO.out _ _ GM.out IM.out).mono ?_; rintro e wN ⟨u, rfl, hx, pa, pb, pc, rfl, hia, hna, hrb, hrc⟩; obtain ⟨a1, n1, c1, rfl⟩ : ∃ a n c, pa = .slice a n c := (let ⟨x, y, h⟩ := hia.shape; ⟨_, _, _, h⟩); obtain ⟨a2, n2, c2, rfl⟩ : ∃ a n c, pb = .slice a n c := (let ⟨T, h1, _⟩ := hrb; let ⟨x, y, h⟩ := h1.shape; ⟨_, _, _, h⟩); obtain ⟨a3, n3, c3, rfl⟩ : ∃ a n c, pc = .slice a n c := (let ⟨T, h1, _⟩ := hrc; let ⟨x, y, h⟩ := h1.shape; ⟨_, _, _, h⟩); have ON := Lib.hid (OM.out.ext hx); have HXN := Lib.hid hx; have HIA := Lib.hid hia; have HNA := Lib.hid hna; have HRB := Lib.hid hrb; have HRC := Lib.hid hrc; have y3 : wN.cell? ⟨ob, 3, none⟩ = some (.slice none 0 0) := ON.out.cell 3; have y4 : wN.cell? ⟨ob, 4, none⟩ = some (.slice none 0 0) := ON.out.cell 4; have y5 : wN.cell? ⟨ob, 5, none⟩ = some (.slice none 0 0) := ON.out.cell 5; have x3 := ON.out.free 3; have x4 := ON.out.free 4; have x5 := ON.out.free 5; clear hx hia hna hrb hrc)
  have g3 := grown_one (grown_one (setCell_grown wN ob 3 (.slice a1 n1 c1)) (setCell_grown _ ob 4 (.slice a2 n2 c2))) (setCell_grown _ ob 5 (.slice a3 n3 c3))
  have OP := Lib.hid (show BlkOf (((wN.setCell ⟨ob, 3, none⟩ (.slice a1 n1 c1)).setCell ⟨ob, 4, none⟩ (.slice a2 n2 c2)).setCell ⟨ob, 5, none⟩ (.slice a3 n3 c3)) ob [.slice a7 4 c7, .slice aM Mc cM, .slice aP Mc cP, .slice a1 n1 c1, .slice a2 n2 c2, .slice a3 n3 c3] 33 from ((ON.out.set 3 _).set 4 _).set 5 _)
  have ZP := Lib.hid (show ob < wM.heap.size from OM.out.lt)
  have GP := Lib.hid (grown_low (grown_one GM.out (HXN.out.grownBy _)) g3 (fun k hk => by cases hk; exact Nat.le_of_eq HOW.out))
  have CP := Lib.hid (chd_keep (CM.out.ext HXN.out) g3 (by have := HOB.out; omega) (fun v2 hv q' hq => by
    obtain ⟨v3, h1, h2⟩ := (CM.out.ext HXN.out).c1
    rw [h1] at hv
    obtain rfl := Option.some.inj hv
    exact ints_not_in h2 (by have h9 := drwS_length p k HL5.out asked; omega) ON.out (by intro u hu; simp at hu; rcases hu with rfl | rfl | rfl | rfl <;> exact ⟨_, _, _, rfl⟩) q' hq))
  have HDW := Lib.hid (show w.heap.size ≤ wL.heap.size from by have h1 := HQW.out; have h2 := HOB.out; have h3 := ZL.out; omega)
  have HDP := Lib.hid (((HDM.out.mono HDW.out).grown CM.out.lt (HXN.out.grownBy none) (by simp)).grown (Nat.lt_of_lt_of_le CM.out.lt HXN.out.size) g3 (fun e => by have := HOB.out; have := Option.some.inj e; omega))
  clear HDM HDW
  have carry : ∀ {u : Value} {l : List Int}, Ints wL u l → (∀ q', u.ownBlock = some q' → ob < q') → Ints (((wN.setCell ⟨ob, 3, none⟩ (.slice a1 n1 c1)).setCell ⟨ob, 4, none⟩ (.slice a2 n2 c2)).setCell ⟨ob, 5, none⟩ (.slice a3 n3 c3)) u l := fun hi hp => ((hi.grown HKM.out (fun q' hq e => by have := hp q' hq; have := HOB.out; have := Option.some.inj e; omega)).ext HXN.out).grown g3 (fun q' hq e => by have := hp q' hq; have := Option.some.inj e; omega)
  have IP0 := Lib.hid (carry IL.out PA.out)
  have IP1 := Lib.hid (carry JL.out PG.out)
  have IP2 := Lib.hid (carry LL.out PK.out)
  have IP3 := Lib.hid (HIA.out.grown g3 (fun q' hq e => by have := HNA.out q' hq; have := ZP.out; have := Option.some.inj e; omega))
  have IP4 := Lib.hid (HRB.out.grown g3 ZP.out)
  have IP5 := Lib.hid (HRC.out.grown g3 ZP.out)
  clear carry g3 y3 y4 y5 x3 x4 x5 z3 CTO GL CL5 ZL OL IL JL LL HKM GM CM IM OM ON HXN HIA HRB HRC
  generalize ((wN.setCell ⟨ob, 3, none⟩ (.slice a1 n1 c1)).setCell ⟨ob, 4, none⟩ (.slice a2 n2 c2)).setCell ⟨ob, 5, none⟩ (.slice a3 n3 c3) = wP at *
  have HSP := Lib.hid (HSW.out _ GP.out)
  have hdr := HA.out.run_drop (P := Tryz.prog) slInts a (by rw [HAV.out]; exact HAC.out.1)
  have hdl : (at_.drop a).length = v - a := by rw [List.length_drop, HAV.out]
  have CU := Lib.hid (by
    have := runits_any (w := wP) (by omega) hp2 ((HA.out.ext HSP.out.x).drop a (by rw [HAV.out]; exact HAC.out.1)) (by rw [hdl]; have := HAC.out; omega)
    rw [hdl] at this
    exact this)
  clear hdl
  go_upto_region 20 with (go_at_call 51; refine CU.out.mono ?_; rintro e wQ ⟨vR, rfl, hx, hi⟩; have HXQ := Lib.hid hx; have HIQ := Lib.hid hi; clear hx hi)
  clear hdr CU
  have hpw : 2 ^ (v - a) = M2.length := by rw [HL2.out, ← HMC.out, HLA.out]
  have HZ := Lib.hid (show plN p (v / 2) (v - v / 2) at_ o = dtU p (nth M2) (unitsL p (at_.drop a) M2.length) M2.length from by unfold plN; rw [HE2.out, HL2.out, HMC.out, HLA.out])
  obtain ⟨zz, hzz⟩ : ∃ zz, dtU p (nth M2) (unitsL p (at_.drop a) M2.length) M2.length = zz := ⟨_, rfl⟩
  rw [hzz] at HZ
  rw [hpw] at HIQ
  have CDT := Lib.hid (by
    have := rdot_any (by omega) hp2 (IP2.out.ext HXQ.out) HIQ.out (by rw [unitsL_length]; exact Nat.le_refl _)
    rw [hzz] at this
    exact this)
  clear hzz hpw
  have m2 : wQ.cell? ⟨ob, 2, none⟩ = some (.slice aP Mc cP) := (OP.out.ext HXQ.out).cell 2
  go_upto_region 21 with (go_at_call 54; refine CDT.out.mono ?_; rintro e wR ⟨rfl, hx⟩; have HXR := Lib.hid (HXQ.out.trans hx); clear hx)
  clear m2 HXQ HIQ CDT
  have b0 : wR.cell? ⟨ob, 0, none⟩ = some (.slice a7 4 c7) := (OP.out.ext HXR.out).cell 0
  have b1 : wR.cell? ⟨ob, 1, none⟩ = some (.slice aM Mc cM) := (OP.out.ext HXR.out).cell 1
  have b2 : wR.cell? ⟨ob, 2, none⟩ = some (.slice aP Mc cP) := (OP.out.ext HXR.out).cell 2
  have b3 : wR.cell? ⟨ob, 3, none⟩ = some (.slice a1 n1 c1) := (OP.out.ext HXR.out).cell 3
  have b4 : wR.cell? ⟨ob, 4, none⟩ = some (.slice a2 n2 c2) := (OP.out.ext HXR.out).cell 4
  have b5 : wR.cell? ⟨ob, 5, none⟩ = some (.slice a3 n3 c3) := (OP.out.ext HXR.out).cell 5
  have BO := Lib.hid (HSP.out.o.ext HXR.out)
  have y0 : wR.cell? ⟨q + 1, 0, none⟩ = some (.slice none 0 0) := BO.out.cell 0
  have y1 : wR.cell? ⟨q + 1, 1, none⟩ = some (.slice none 0 0) := BO.out.cell 1
  have y2 : wR.cell? ⟨q + 1, 2, none⟩ = some (.slice none 0 0) := BO.out.cell 2
  have y3 : wR.cell? ⟨q + 1, 3, none⟩ = some (.slice none 0 0) := BO.out.cell 3
  have y4 : wR.cell? ⟨q + 1, 4, none⟩ = some (.slice none 0 0) := BO.out.cell 4
  have y5 : wR.cell? ⟨q + 1, 5, none⟩ = some (.slice none 0 0) := BO.out.cell 5
  have x0 := BO.out.free 0
  have x1 := BO.out.free 1
  have x2 := BO.out.free 2
  have x3 := BO.out.free 3
  have x4 := BO.out.free 4
  have x5 := BO.out.free 5
  go_wp2_with fail
  have gz := grown_one (grown_one (grown_one (grown_one (grown_one (setCell_grown wR (q + 1) 0 (.slice a7 4 c7)) (setCell_grown _ (q + 1) 1 (.slice aM Mc cM))) (setCell_grown _ (q + 1) 2 (.slice aP Mc cP))) (setCell_grown _ (q + 1) 3 (.slice a1 n1 c1))) (setCell_grown _ (q + 1) 4 (.slice a2 n2 c2))) (setCell_grown _ (q + 1) 5 (.slice a3 n3 c3))
  have bz := (((((BO.out.set 0 (.slice a7 4 c7)).set 1 (.slice aM Mc cM)).set 2 (.slice aP Mc cP)).set 3 (.slice a1 n1 c1)).set 4 (.slice a2 n2 c2)).set 5 (.slice a3 n3 c3)
  have d0 : _ = some (Value.slice a7 4 c7) := bz.cell 0
  have d1 : _ = some (Value.slice aM Mc cM) := bz.cell 1
  have d2 : _ = some (Value.slice aP Mc cP) := bz.cell 2
  have d3 : _ = some (Value.slice a1 n1 c1) := bz.cell 3
  have d4 : _ = some (Value.slice a2 n2 c2) := bz.cell 4
  have d5 : _ = some (Value.slice a3 n3 c3) := bz.cell 5
  have hob := HOB.out
  have hzl := ZP.out
  have hcq := HCQ.out
  have hwo := HOW.out
  refine bodyPost_ret (v := .tuple #[(.agg #[.slice a7 4 c7, .slice aM Mc cM, .slice aP Mc cP, .slice a1 n1 c1, .slice a2 n2 c2, .slice a3 n3 c3]), .int .i64 zz]) (by simp [results, Tryz.results13, go_sem, d0, d1, d2, d3, d4, d5]) rfl ⟨_, _, _, _, _, _, by rw [HZ.out], ?_, ?_, ?_, ?_⟩
  · exact grown_low (grown_one G07.out (grown_one GP.out (HXR.out.grownBy (some cb)))) gz (fun k hk => by cases hk; have := HQW.out; omega)
  · exact chd_keep (CP.out.ext HXR.out) gz (by omega) (fun v2 hv q' hq => by
      obtain ⟨v3, h1, h2⟩ := (CP.out.ext HXR.out).c1
      rw [h1] at hv
      obtain rfl := Option.some.inj hv
      exact ints_not_in h2 (by have h9 := drwS_length p k HL5.out asked; omega) BO.out (by intro u hu; simp at hu; subst hu; exact ⟨_, _, _, rfl⟩) q' hq)
  · refine ⟨?_, ?_, ?_, ?_, ?_, ?_⟩
    · rw [HO0.out]; exact (IP0.out.ext HXR.out).grown gz (fun q' hq e => by have := PA.out q' hq; have := Option.some.inj e; omega)
    · rw [HE1.out]; exact (IP1.out.ext HXR.out).grown gz (fun q' hq e => by have := PG.out q' hq; have := Option.some.inj e; omega)
    · rw [HE2.out]; exact (IP2.out.ext HXR.out).grown gz (fun q' hq e => by have := PK.out q' hq; have := Option.some.inj e; omega)
    · exact (IP3.out.ext HXR.out).grown gz (fun q' hq e => by have := HNA.out q' hq; have := Option.some.inj e; omega)
    · exact ((IP4.out.ext HXR.out).grown gz (by omega)).rws
    · exact ((IP5.out.ext HXR.out).grown gz (by omega)).rws
  · exact (HDP.out.grown CP.out.lt (HXR.out.grownBy none) (by simp)).grown (Nat.lt_of_lt_of_le CP.out.lt HXR.out.size) gz (fun e => by have := Option.some.inj e; omega)
end
end Go.Proofs.YtfepefbehgbjpaaGreatDoor
