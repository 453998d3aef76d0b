/- What shows a table at a point: plain; pledge.Open, the program's side: contract. Printed by wip/mkoj.py. -/
import Derived.Test.YtfepefbehgbjpaaGreatDoorOi
import Derived.Test.YtfepefbehgbjpaaGreatDoorOg
import Derived.Test.YtfepefbehgbjpaaGreatDoorZx17
import Derived.Test.YtfepefbehgbjpaaGreatDoorZx18
namespace Go.Att
open Go.RowKit
def oCol (p sh rt : Int) (n v : Nat) (t : List Int) : List (List Int) := colsL p sh rt n (rowsL t (2 ^ (v - v / 2)) (2 ^ (v / 2)))
def oMix (p : Int) (f : Nat → Int) (v : Nat) (t : List Int) : List Int := mxU p f (rowsL (t.map (fof p)) (2 ^ (v - v / 2)) (2 ^ (v / 2))) (2 ^ (v - v / 2)) (2 ^ (v / 2))
def oR (p : Int) (k : Nat) (D root at_ : List Int) : Int := nth (stepP p k 4 (stepP p k 3 (stepP p k 3 D root) at_) []) 0
def opn (p sh rt : Int) (k n : Nat) (D : List Int) (v : Nat) (at_ : List Int) (asked : Nat) (t : List Int) : Pld :=
  let root := tabR p sh rt k n v t
  let mixed := oMix p (fun i => fpow p (oR p k D root at_) i) v t
  let point := oMix p (fun i => wgt (at_.take (v / 2)) i % p) v t
  let L := onceL (plcL p k (stepP p k 3 (stepP p k 3 (stepP p k 4 (stepP p k 3 (stepP p k 3 D root) at_) []) mixed) point) n asked)
  ⟨root, mixed, point, L, shoR p (oCol p sh rt n v t) L L.length, nodL p k L (oCol p sh rt n v t) n 0 n⟩
theorem oMix_length (p : Int) (f : Nat → Int) (v : Nat) (t : List Int) (ht : t.length = 2 ^ v) : (oMix p f v t).length = 2 ^ (v - v / 2) := by
  unfold oMix
  refine mxU_length p f _ _ (fun i hi => ?_) _ (by rw [rowsL_length]; exact Nat.le_refl _)
  rw [rowsL_length] at hi
  rw [rowsL_nth _ _ _ _ hi, List.length_take, List.length_drop, List.length_map, ht]
  have h1 : 2 ^ v = 2 ^ (v / 2) * 2 ^ (v - v / 2) := by rw [← Nat.pow_add]; congr 1; omega
  rw [h1]
  have h2 : (i + 1) * 2 ^ (v - v / 2) ≤ 2 ^ (v / 2) * 2 ^ (v - v / 2) := Nat.mul_le_mul_right _ hi
  rw [Nat.add_mul] at h2
  omega
theorem ints_not_in {W : World} {v : Value} {l : List Int} {ob : Nat} {cs : List Value} {T : TypeId} (h : Ints W v l) (hl : 1 ≤ l.length) (hB : BlkOf W ob cs T) (hcs : ∀ u ∈ cs, ∃ a n c, u = .slice a n c) : ∀ q, v.ownBlock = some q → q ≠ ob := by
  rintro q hq rfl
  obtain ⟨ao, cap, rfl, e2, e3, e4, e5⟩ := h
  obtain ⟨bb, off, rfl, hc⟩ := e5 0 (by simp; omega)
  obtain rfl : bb = q := by simpa [Value.ownBlock] using hq
  rw [hB.cell] at hc
  obtain ⟨a, n, c, e⟩ := hcs _ (List.mem_of_getElem? hc)
  simp at e
theorem plL_some {p : Int} {k : Nat} {D : List Int} {o : Pld} {at_ : List Int} {n : Int} {asked : Nat} (ha : 1 ≤ asked) : 1 ≤ (plL p k D o at_ n asked).length := by
  have h1 : 0 < (plcL p k (plD5 p k D o at_) n asked).length := by rw [plcL_length]; exact ha
  have h2 : (plcL p k (plD5 p k D o at_) n asked)[0] ∈ plL p k D o at_ n asked := (onceL_mem _).2 (List.getElem_mem h1)
  exact List.length_pos_of_mem h2
theorem plL_all {p : Int} {k : Nat} {D : List Int} {o : Pld} {at_ : List Int} {n : Int} {asked : Nat} (hn : 1 ≤ n) : ∀ x ∈ plL p k D o at_ n asked, 0 ≤ x ∧ x < n := fun _ hx => plcL_in hn ((onceL_mem _).1 hx)
section
variable {w0 W W' : World} {q q16 ks : Nat} {va fv dv : Value} {os : List Value} {a c : Nat} {T : TypeId}
theorem PrgS.turn (h : PrgS w0 q q16 ks va fv dv os a c T W) {b : Nat} (hg : W.grownBy W' (some b)) (hb : w0.heap.size ≤ b) (h1 : b ≠ q) (h1' : b ≠ q + 1) (h2 : b ≠ q16) (h3 : b ≠ ks) : PrgS w0 q q16 ks va fv dv os a c T W' :=
  ⟨Below.grown h.x.below hg h.x.size (fun k e => by cases e; exact hb), hg.cell h.at_ (fun e => h1 (Option.some.inj e).symm), h.o.grown hg (fun e => h1' (Option.some.inj e).symm), hg.cell h.t (fun e => h2 (Option.some.inj e).symm), hg.cell h.s0 (fun e => h3 (Option.some.inj e).symm), hg.cell h.s1 (fun e => h3 (Option.some.inj e).symm), hg.cell h.s2 (fun e => h3 (Option.some.inj e).symm), hg.cell h.s3 (fun e => h3 (Option.some.inj e).symm)⟩
end
end Go.Att
namespace Go.Proofs.YtfepefbehgbjpaaGreatDoor
open Go.RowKit Go.Att
section
variable {w : World} {ks q1 q2 bf : Nat} {p g : Int} {fs : List Int}
theorem pop1_enter (xs : Array Value) (W : World) : (callFunc 31 xs).run Tryz.prog W = .ok (.enter 31 xs) W := by kernel_rfl
theorem pop2_enter (xs : Array Value) (W : World) : (callFunc 33 xs).run Tryz.prog W = .ok (.enter 33 xs) W := by kernel_rfl
set_option maxRecDepth 100000 in
set_option maxHeartbeats 2000000 in
theorem pop1_any (hf : Fld w (.pointer (some ⟨bf, 0, none⟩)) p g fs) (h1 : w.cell? ⟨q1, 0, none⟩ = some (.pointer (some ⟨ks, 0, none⟩))) (k0 : w.cell? ⟨ks, 0, none⟩ = some (.pointer (some ⟨bf, 0, none⟩))) (r : Int) (h2 : w.cell? ⟨q2, 0, none⟩ = some (.int .i64 r)) (i : Nat) (hi : i ≤ 9223372036854775807) :
    Calls Tryz.prog 31 #[.int .i64 i, .pointer (some ⟨q1, 0, none⟩), .pointer (some ⟨q2, 0, none⟩)] w (Rd w (.int .i64 (fpow p r i))) := by
  have HF := Lib.hid hf
  clear hf
  go_enter Tryz.func31, Tryz.ntmps31
  go_wp2_with fail
  go_quiet ((go_at_call 32; exact pownat_q HF.out r i hi _))
  go_wp2_with fail
  go_ret
  exact .more _ rfl
set_option maxRecDepth 100000 in
set_option maxHeartbeats 2000000 in
theorem pop2_any (hf : Fld w (.pointer (some ⟨bf, 0, none⟩)) p g fs) (h1 : w.cell? ⟨q1, 0, none⟩ = some (.pointer (some ⟨ks, 0, none⟩))) (k0 : w.cell? ⟨ks, 0, none⟩ = some (.pointer (some ⟨bf, 0, none⟩))) {a : Nat} (k2 : w.cell? ⟨ks, 2, none⟩ = some (.int .i64 a)) {va : Value} {at_ : List Int} (h2 : w.cell? ⟨q2, 0, none⟩ = some va) (hv : Ints w va at_) (ha : a ≤ at_.length) (hal : at_.length ≤ 30) (i : Nat) (hi : i ≤ 9223372036854775807) :
    Calls Tryz.prog 33 #[.int .i64 i, .pointer (some ⟨q1, 0, none⟩), .pointer (some ⟨q2, 0, none⟩)] w (Rd w (.int .i64 (wgt (at_.take a) i % p))) := by
  have HF := Lib.hid hf
  have htk := hv.run_take (P := Tryz.prog) slInts a ha
  have HTK := Lib.hid (hv.take a ha)
  have HTL := Lib.hid (show (at_.take a).length ≤ 30 from by rw [List.length_take]; omega)
  have HI := Lib.hid hi
  clear hf hv
  go_enter Tryz.func33, Tryz.ntmps33
  go_wp2_with fail
  go_quiet ((go_at_call 34; exact Calls.quiet_of (unit_any (HF.out.drewN _) _ (at_.take a) i (HTK.out.drewN _) HTL.out HI.out)))
  go_wp2_with fail
  go_ret
  exact .more _ rfl
end
section
variable {w0 w : World} {cb bs bf : Nat} {p g0 : Int} {k : Nat} {fs D : List Int} {dv va vt : Value} {at_ t : List Int} {sh rt : Int}
set_option maxRecDepth 100000 in
set_option maxHeartbeats 16000000 in
theorem popen_ok (hsp : Spg w0 (.pointer (some ⟨bs, 0, none⟩)) p k) (h2p : 2 ≤ p) (hp2 : p ≤ 2147483647) (K : Nat) (hK : K ≤ 16) (n : Nat) (hn : n = 2 ^ K) (hrt : ∀ m, K = m + 1 → rt ^ (2 ^ m) % p = (-1) % p) (hd : DomOf w0 dv (.pointer (some ⟨bf, 0, none⟩)) n sh rt) (hf : Fld w0 (.pointer (some ⟨bf, 0, none⟩)) p g0 fs) (v : Nat) (hv : v ≤ 12) (hroom : roomB n v = true) (hav : at_.length = v) (ht : t.length = 2 ^ v) (asked : Nat) (ha1 : 1 ≤ asked) (ha2 : asked ≤ 64) (hx0 : Ext w0 w) (hb : w0.heap.size ≤ cb) (ha : Ints w0 va at_) (hvt : Ints w0 vt t) (hc : ChP w cb (.pointer (some ⟨bs, 0, none⟩)) D) (hD : D.length = 4) :
    Calls Tryz.prog 6 #[.pointer (some ⟨bs, 0, none⟩), .pointer (some ⟨cb, 0, none⟩), dv, vt, va, .int .i64 asked] w fun e w' => ∃ r0 r1 r2 r3 r4 r5, e = .returned (.tuple #[.agg #[r0, r1, r2, r3, r4, r5], .int .i64 (plN p (v / 2) (v - v / 2) at_ (opn p sh rt k n D v at_ asked t)), .nilIface]) ∧ w.grownBy w' (some cb) ∧ ChP w' cb (.pointer (some ⟨bs, 0, none⟩)) (drwS p k (plD5 p k D (opn p sh rt k n D v at_ asked t) at_) asked) ∧ PldAt w' r0 r1 r2 r3 r4 r5 (opn p sh rt k n D v at_ asked t) ∧ (∀ u, u = r0 ∨ u = r1 ∨ u = r2 ∨ u = r3 → ∀ q, u.ownBlock = some q → w.heap.size ≤ q) ∧ RwsN w.heap.size w' r4 (opn p sh rt k n D v at_ asked t).rows ∧ RwsN w.heap.size w' r5 (opn p sh rt k n D v at_ asked t).nodes := by
  have hla := ha.run_len (P := Tryz.prog) slInts
  obtain ⟨aa, ac, hshp⟩ := ha.shape
  rw [hav] at hla hshp
  subst hshp
  have hpow1 : 1 ≤ 2 ^ K := Nat.one_le_two_pow
  have hn1 : 1 ≤ n := by omega
  have hn2 : n ≤ 65536 := by rw [hn]; exact Nat.le_trans (Nat.pow_le_pow_right (by decide) hK) (by decide)
  have hnz : (n : Int) = (2 : Int) ^ K := by rw [hn]; simp
  have hrm2 : 2 ^ (v - v / 2) ≤ n ∧ 2 ≤ n := by
    unfold roomB at hroom
    rw [decide_eq_true_eq] at hroom
    have e1 : ((2 ^ (v - v / 2) : Nat) : Int) = (2 : Int) ^ (v - v / 2) := by simp
    have h1 : 1 ≤ 2 ^ (v - v / 2) := Nat.one_le_two_pow
    omega
  have hK1 : 1 ≤ K := by
    cases K with
    | zero => simp at hn; omega
    | succ K => omega
  have HSP := Lib.hid hsp; have HDO := Lib.hid hd; have HFL := Lib.hid hf
  have HA := Lib.hid ha; have HAV := Lib.hid hav; have HVT := Lib.hid hvt; have HTL := Lib.hid ht
  have hCM : t.length = 2 ^ (v / 2) * 2 ^ (v - v / 2) := by rw [ht, ← Nat.pow_add]; congr 1; omega
  have ht4 : t.length ≤ 4096 := by rw [ht]; exact pow12 hv
  have CO := Lib.hid (fun W (hx : Ext w0 W) => by have := of_ok (hd.ext hx) (by omega) (by omega) (hvt.ext hx) v hv ht; unfold ShpGot at this; rw [hroom] at this; exact this)
  have CRW := Lib.hid (fun (W : World) (s : Value) (hx : Ext w0 W) (hsh : ShpOf W s (.pointer (some ⟨bf, 0, none⟩)) dv (v / 2) (v - v / 2)) => prowsN_any hsh (hf.ext hx) (by omega) (hvt.ext hx) (2 ^ (v / 2)) hCM ht4)
  have CCL := Lib.hid (fun (W : World) (s vr : Value) (hx : Ext w0 W) (hsh : ShpOf W s (.pointer (some ⟨bf, 0, none⟩)) dv (v / 2) (v - v / 2)) (hr : Rws W vr (rowsL (t.map (fof p)) (2 ^ (v - v / 2)) (2 ^ (v / 2)))) => by
    obtain ⟨R, hR⟩ := hr
    have := pcolsN_any hsh (hd.ext hx) (hf.ext hx) K hK1 hK hnz hrt hR (by rw [rowsL_length]; exact pow12 (by omega)) (fun i hi => by rw [rowsL_length] at hi; rw [rowsL_nth _ _ _ _ hi, List.length_take]; omega)
    rw [colsL_fof, ← hn] at this
    exact this)
  have CRT := Lib.hid (fun (W : World) (vr : Value) (hx : Ext w0 W) (hr : Rws W vr (oCol p sh rt n v t)) => by
    obtain ⟨R, hR⟩ := hr
    have := tRootN_any (hsp.ext hx) hR (by unfold oCol; rw [colsL_length]; exact hn1) (by unfold oCol; rw [colsL_length]; exact hn2) (fun i hi => by unfold oCol at hi ⊢; rw [colsL_length] at hi; rw [colsL_row _ _ _ _ _ _ hi, rowsL_length]; have := pow12 (k := v / 2) (by omega); omega)
    rw [show (oCol p sh rt n v t).length = n from colsL_length _ _ _ _ _, show rootF p k n (oCol p sh rt n v t) = tabR p sh rt k n v t from rfl] at this
    exact this)
  obtain ⟨a, ha'⟩ : ∃ a, v / 2 = a := ⟨_, rfl⟩
  obtain ⟨c, hc'⟩ : ∃ c, v - a = c := ⟨_, rfl⟩
  have HAC := Lib.hid (show a ≤ 6 ∧ c ≤ 6 ∧ a + c = v from by omega)
  have HLA := Lib.hid ha'; have HLC := Lib.hid hc'
  have CA := Lib.hid (fun W => by have := pasks_any W asked; rw [decide_eq_true (show 1 ≤ (asked : Int) ∧ (asked : Int) ≤ 64 by omega)] at this; exact this)
  have hX := (Ext.alloc w (Obj.cells #[.slice aa v ac] 22)).trans (Ext.alloc _ (Obj.cells #[.slice none 0 0, .slice none 0 0, .slice none 0 0, .slice none 0 0, .slice none 0 0, .slice none 0 0] 33))
  have hK1x := (Ext.alloc _ (Obj.cells #[.slice none 0 0, .slice none 0 0, .slice none 0 0, .slice none 0 0, .slice none 0 0, .slice none 0 0] 33)).cell (cell_new w #[.slice aa v ac] 22 0)
  have hK2 := BlkOf.new (w.alloc (Obj.cells #[.slice aa v ac] 22)) [.slice none 0 0, .slice none 0 0, .slice none 0 0, .slice none 0 0, .slice none 0 0, .slice none 0 0] 33
  rw [World.size_alloc] at hK2
  have HX := Lib.hid hX; have HK := Lib.hid hK1x; have HK2 := Lib.hid hK2; have HX0 := Lib.hid hx0; have HB := Lib.hid hb
  have HCB := Lib.hid (World.block_lt_of_cell? w _ hc.c0)
  have HC := Lib.hid hc
  have HD := Lib.hid hD
  have HN := Lib.hid (And.intro hn1 hn2)
  obtain ⟨o, ho⟩ : ∃ o, opn p sh rt k n D v at_ asked t = o := ⟨_, rfl⟩
  have HO0 := Lib.hid (show o.root = tabR p sh rt k n v t from by rw [← ho]; rfl)
  have HO1 := Lib.hid (show o.mixed = oMix p (fun i => fpow p (oR p k D o.root at_) i) v t from by rw [← ho]; rfl)
  have HO2 := Lib.hid (show o.point = oMix p (fun i => wgt (at_.take (v / 2)) i % p) v t from by rw [← ho]; rfl)
  have HO3 := Lib.hid (show o.places = plL p k D o at_ n asked from by rw [← ho]; rfl)
  have HO4 := Lib.hid (show o.rows = shoR p (oCol p sh rt n v t) o.places o.places.length from by rw [← ho]; rfl)
  have HO5 := Lib.hid (show o.nodes = nodL p k o.places (oCol p sh rt n v t) n 0 n from by rw [← ho]; rfl)
  have HOL := Lib.hid (show o.mixed.length = 2 ^ (v - v / 2) ∧ o.point.length = 2 ^ (v - v / 2) from by rw [← ho]; exact ⟨oMix_length _ _ _ _ ht, oMix_length _ _ _ _ ht⟩)
  rw [ho]
  clear ho ha hc hav hX hK1x hK2 hD hx0 hroom hsp hd hf hvt hCM ht4 hnz hpow1 hrt hrm2 hb hn hK hK1
  go_enter Tryz.func6, Tryz.ntmps6
  go_upto_region 1 with (fail)
  generalize (w.alloc (Obj.cells #[.slice aa v ac] 22)).alloc (Obj.cells #[.slice none 0 0, .slice none 0 0, .slice none 0 0, .slice none 0 0, .slice none 0 0, .slice none 0 0] 33) = W1 at *
  go_upto_region 2 with (go_at_call 23; refine (CO.out _ (HX0.out.trans HX.out)).mono ?_; rintro e w2 ⟨u, rfl, hx2, s, rfl, ks, rfl, s0, s1, s2, s3⟩; have HX2 := Lib.hid hx2; have HS0 := Lib.hid s0; have HS1 := Lib.hid s1; have HS2 := Lib.hid s2; have HS3 := Lib.hid s3; clear hx2 s0 s1 s2 s3)
  have hx3 := Ext.alloc w2 (Obj.cells #[.pointer (some ⟨ks, 0, none⟩)] 68)
  have hk16 := cell_new w2 #[.pointer (some ⟨ks, 0, none⟩)] 68 0
  have HKS := Lib.hid (show cb ≠ ks from by
    rintro rfl
    obtain ⟨vd, h1, h2⟩ := ((HC.out.ext HX.out).ext HX2.out).c1
    obtain ⟨ad, cd, rfl⟩ := h2.shape
    obtain ⟨bd, rfl⟩ := HDO.out.ptr
    rw [HS1.out] at h1; cases h1)
  have HXA := Lib.hid (HX2.out.trans hx3)
  have hs2' := HS2.out
  have hs3' := HS3.out
  rw [ha'] at hs2' hs3'
  rw [hc'] at hs3'
  have S3 : Hid (PrgS w0 w.heap.size w2.heap.size ks (.slice aa v ac) (.pointer (some ⟨bf, 0, none⟩)) dv [.slice none 0 0, .slice none 0 0, .slice none 0 0, .slice none 0 0, .slice none 0 0, .slice none 0 0] a c 33 (w2.alloc (Obj.cells #[.pointer (some ⟨ks, 0, none⟩)] 68))) := Lib.hid ⟨HX0.out.trans (HX.out.trans HXA.out), HXA.out.cell HK.out, HK2.out.ext HXA.out, hk16, hx3.cell HS0.out, hx3.cell HS1.out, hx3.cell hs2', hx3.cell hs3'⟩
  have G3 := Lib.hid ((HX.out.trans HXA.out).grownBy (some cb))
  have C3 := Lib.hid ((HC.out.ext HX.out).ext HXA.out)
  have HQ16 := Lib.hid (show cb < w2.heap.size ∧ w.heap.size + 1 < w2.heap.size ∧ cb < w.heap.size from by have h1 := (HX.out.trans HX2.out).size; have h2 := HCB.out; have h3 := HK2.out.lt; have h4 := HX2.out.size; exact ⟨by omega, by omega, h2⟩)
  have HKL := Lib.hid (show ks < w2.heap.size from World.block_lt_of_cell? w2 _ HS0.out)
  clear hx3 hk16 HX HX2 HXA HS0 HS1 HS2 HS3 HK HK2 HC CO hs2' hs3'
  generalize w2.alloc (Obj.cells #[.pointer (some ⟨ks, 0, none⟩)] 68) = w3 at *
  have HW3 := Lib.hid (show w2.heap.size < w3.heap.size from World.block_lt_of_cell? w3 _ S3.out.t)
  generalize w2.heap.size = q16 at *
  generalize hqw : w.heap.size = q at *
  have HQW := Lib.hid hqw
  clear hqw
  have t0 : w3.cell? ⟨q16, 0, none⟩ = some (.pointer (some ⟨ks, 0, none⟩)) := S3.out.t
  have t2 : w3.cell? ⟨ks, 2, none⟩ = some (.int .i64 a) := S3.out.s2
  have t3 : w3.cell? ⟨ks, 3, none⟩ = some (.int .i64 c) := S3.out.s3
  have k0 : w3.cell? ⟨q, 0, none⟩ = some (.slice aa v ac) := S3.out.at_
  have hwac : IntKind.i64.wrap ((a : Int) + c) = (v : Int) := by have := HAC.out; rw [IntWalk.i64_in _ (by omega)]; omega
  have hvv : ((v : Int) != (v : Int)) = false := by simp
  go_quiet (fail)
  have hxq := Ext.drewN w3 nq
  replace S3 := Lib.hid (S3.out.ext hxq); replace G3 := Lib.hid (grown_one G3.out (hxq.grownBy _)); replace C3 := Lib.hid (C3.out.ext hxq)
  have HW4 : Hid (q16 < (w3.drewN nq).heap.size) := Lib.hid HW3.out
  clear t0 t2 t3 k0 hxq hwac hvv HW3
  generalize w3.drewN nq = w4 at *
  have t0 : w4.cell? ⟨q16, 0, none⟩ = some (.pointer (some ⟨ks, 0, none⟩)) := S3.out.t
  have HSH := Lib.hid (show ShpOf w4 (.pointer (some ⟨ks, 0, none⟩)) (.pointer (some ⟨bf, 0, none⟩)) dv (v / 2) (v - v / 2) from ⟨ks, rfl, S3.out.s0, S3.out.s1, by rw [HLA.out]; exact S3.out.s2, by rw [HLA.out, HLC.out]; exact S3.out.s3⟩)
  go_upto_region 7 with (first | (go_at_call 24; refine (CA.out _).mono ?_; rintro e w' ⟨rfl, rfl⟩) | (go_at_call 25; refine (CRW.out _ _ S3.out.x HSH.out).mono ?_; rintro e w5 ⟨v5, rfl, hx5, hr5⟩; have HX5 := Lib.hid hx5; have HR5 := Lib.hid hr5; clear hx5 hr5))
  clear t0
  have t0 : w5.cell? ⟨q16, 0, none⟩ = some (.pointer (some ⟨ks, 0, none⟩)) := (S3.out.ext HX5.out).t
  go_upto_region 8 with (go_at_call 26; refine (CCL.out _ _ _ (S3.out.ext HX5.out).x (HSH.out.ext HX5.out) HR5.out.rws).mono ?_; rintro e w6 ⟨v6, rfl, hx6, hr6⟩; have HX6 := Lib.hid hx6; have HR6 : Hid (RwsN w5.heap.size w6 v6 (oCol p sh rt n v t)) := Lib.hid hr6; clear hx6 hr6)
  clear t0
  have HRL := Lib.hid (show (tabR p sh rt k n v t).length = 4 from by
    obtain ⟨m, rfl⟩ : ∃ m, n = m + 1 := ⟨n - 1, by have := HN.out; omega⟩
    unfold tabR; simp only [rootF]; split <;> exact hashP_length _ _ _)
  go_upto_region 11 with (go_at_call 27; refine (CRT.out _ _ ((S3.out.ext HX5.out).ext HX6.out).x HR6.out.rws).mono ?_; rintro e w7 ⟨u7, rfl, hx7, v7, rfl, hi7, hn7⟩; obtain ⟨a7, c7, e7⟩ := hi7.shape; rw [HRL.out] at e7; subst e7; have HX7 := Lib.hid hx7; have HI7 := Lib.hid hi7; have HN7 := Lib.hid hn7; clear hx7 hi7 hn7)
  -- all that is older, in the world ahead of the pledge's box
  have HX47 := Lib.hid (HX5.out.trans (HX6.out.trans HX7.out))
  have SB := Lib.hid (S3.out.ext HX47.out)
  have G07 := Lib.hid (grown_one G3.out (HX47.out.grownBy _))
  have CB := Lib.hid (C3.out.ext HX47.out)
  have RB := Lib.hid ((HR5.out.ext (HX6.out.trans HX7.out)).base (show cb + 1 ≤ w4.heap.size from by have := HQ16.out; have := HW4.out; omega))
  have LB := Lib.hid ((HR6.out.ext HX7.out).base (show cb + 1 ≤ w5.heap.size from by have := HQ16.out; have := HW4.out; have := HX5.out.size; omega))
  have H7 := Lib.hid (show ∀ q', (Value.slice a7 4 c7).ownBlock = some q' → cb + 1 ≤ q' ∧ q' < w7.heap.size ∧ q + 1 < q' from fun q' hq => ⟨by have h1 := HN7.out q' hq; have := HQ16.out; have := HW4.out; have := HX5.out.size; have := HX6.out.size; omega, ints_blk HI7.out (by rw [HRL.out]; omega) hq, by have h1 := HN7.out q' hq; have := HQ16.out; have := HW4.out; have := HX5.out.size; have := HX6.out.size; omega⟩)
  have HW7 := Lib.hid (show q16 < w7.heap.size from by have := HW4.out; have := HX47.out.size; omega)
  clear S3 G3 C3 HR5 HR6 HX5 HX6 HX7 HX47 HN7 HSH CA CRW CCL CRT HW4
  have O8 := Lib.hid (BlkOf.new w7 [.slice a7 4 c7, .slice none 0 0, .slice none 0 0, .slice none 0 0, .slice none 0 0, .slice none 0 0] 33)
  have HX8 := Lib.hid (Ext.alloc w7 (Obj.cells #[.slice a7 4 c7, .slice none 0 0, .slice none 0 0, .slice none 0 0, .slice none 0 0, .slice none 0 0] 33))
  have hs8 : (w7.alloc (Obj.cells #[.slice a7 4 c7, .slice none 0 0, .slice none 0 0, .slice none 0 0, .slice none 0 0, .slice none 0 0] 33)).heap.size = w7.heap.size + 1 := World.size_alloc _ _
  have HOB := Lib.hid (show cb < w7.heap.size ∧ q + 1 < w7.heap.size ∧ q16 < w7.heap.size ∧ ks < w7.heap.size from by have h1 := HQ16.out; have h2 := HKL.out; have h3 := HW7.out; omega)
  have HSW := Lib.hid (fun W (hg : w7.grownBy W (some cb)) => show Spg W (.pointer (some ⟨bs, 0, none⟩)) p k ∧ PrgS w0 q q16 ks (.slice aa v ac) (.pointer (some ⟨bf, 0, none⟩)) dv [.slice none 0 0, .slice none 0 0, .slice none 0 0, .slice none 0 0, .slice none 0 0, .slice none 0 0] a c 33 W from by
    have h1 := HQ16.out
    have h2 := SB.out.turn hg HB.out (by omega) (by omega) (by omega) HKS.out
    exact ⟨HSP.out.ext h2.x, h2⟩)
  have HRW := Lib.hid (fun W (hg : w7.grownBy W (some cb)) => RB.out.grown hg (Nat.lt_succ_self cb))
  have HLW := Lib.hid (fun W (hg : w7.grownBy W (some cb)) => LB.out.grown hg (Nat.lt_succ_self cb))
  have HTW := Lib.hid (fun W (hg : w7.grownBy W (some cb)) => HI7.out.grown hg (fun q' hq e => by have h1 := (H7.out q' hq).1; have := Option.some.inj e; omega))
  have G8 := Lib.hid (HX8.out.grownBy (some cb))
  have C8 := Lib.hid (CB.out.ext HX8.out)
  go_upto_region 12 with (fail)
  generalize w7.alloc (Obj.cells #[.slice a7 4 c7, .slice none 0 0, .slice none 0 0, .slice none 0 0, .slice none 0 0, .slice none 0 0] 33) = w8 at *
  have HS8 := Lib.hid hs8
  clear hs8 HX8 SB CB RB LB HI7
  obtain ⟨ob, hob⟩ : ∃ ob, w7.heap.size = ob := ⟨_, rfl⟩
  have HOW := Lib.hid hob
  rw [hob] at O8 HOB HS8 H7 ⊢
  clear hob
  have HW8 := Lib.hid (show ob + 1 ≤ w8.heap.size from by have := HS8.out; omega)
  have HLB := Lib.hid (show (tabR p sh rt k n v t).length ≤ 100 ∧ at_.length ≤ 100 ∧ 2 ^ (v - v / 2) ≤ 4096 from ⟨by rw [HRL.out]; omega, by rw [HAV.out]; omega, pow12 (by omega)⟩)
  go_upto_region 13 with (go_at_call 28; refine (ctake_any C8.out (HSW.out _ G8.out).1 (.slice a7 4 c7) (tabR p sh rt k n v t) (HTW.out _ G8.out) (by rw [HD.out]; have := HLB.out; omega)).mono ?_; rintro e w9 ⟨rfl, hg, hcc, hdg⟩; have G9 := Lib.hid (grown_one G8.out hg); have C9 := Lib.hid hcc; have Z9 := Lib.hid (Nat.le_trans HW8.out hg.size); have O9 := Lib.hid (O8.out.grown hg (fun e => by have := HOB.out; have := Option.some.inj e; omega)); clear hg hcc hdg)
  have t0 : w9.cell? ⟨q, 0, none⟩ = some (.slice aa v ac) := (HSW.out _ G9.out).2.at_
  go_upto_region 14 with (go_at_call 28; refine (ctake_any C9.out (HSW.out _ G9.out).1 (.slice aa v ac) at_ (HA.out.ext (HSW.out _ G9.out).2.x) (by rw [stepP_length]; have := HLB.out; omega)).mono ?_; rintro e wA ⟨rfl, hg, hcc, hdg⟩; have GA := Lib.hid (grown_one G9.out hg); have CA := Lib.hid hcc; have ZA := Lib.hid (Nat.le_trans Z9.out hg.size); have NA : Hid (∀ v, wA.cell? ⟨cb, 1, none⟩ = some v → ∀ q', v.ownBlock = some q' → ob < q') := Lib.hid (fun v hv q' hq => by have h1 := hdg v hv q' hq; have h2 := Z9.out; omega); have OA := Lib.hid (O9.out.grown hg (fun e => by have := HOB.out; have := Option.some.inj e; omega)); clear hg hcc hdg)
  clear t0
  have CDR := Lib.hid (cdraw_any CA.out (HSW.out _ GA.out).1 (by rw [stepP_length]; omega))
  obtain ⟨rr, hrr⟩ : ∃ rr, oR p k D (tabR p sh rt k n v t) at_ = rr := ⟨_, rfl⟩
  rw [show nth (stepP p k 4 (stepP p k 3 (stepP p k 3 D (tabR p sh rt k n v t)) at_) []) 0 = rr from hrr] at CDR
  have HRR := Lib.hid hrr
  clear hrr
  go_upto_region 15 with (go_at_call 29; refine CDR.out.mono ?_; rintro e wB ⟨rfl, hg, hcc, hdg⟩; have GB := Lib.hid (grown_one GA.out hg); have CB := Lib.hid hcc; have ZB := Lib.hid (Nat.le_trans ZA.out hg.size); have NB : Hid (∀ v, wB.cell? ⟨cb, 1, none⟩ = some v → ∀ q', v.ownBlock = some q' → ob < q') := Lib.hid (fun v hv q' hq => by have h1 := hdg v hv q' hq; have h2 := ZA.out; omega); have OB := Lib.hid (OA.out.grown hg (fun e => by have := HOB.out; have := Option.some.inj e; omega)); clear hg hcc hdg)
  have hxE := Ext.alloc wB (Obj.cells #[.int .i64 rr] 3)
  have KE := Lib.hid (cell_new wB #[.int .i64 rr] 3 0)
  have HBL := Lib.hid (show cb < wB.heap.size from World.block_lt_of_cell? wB _ CB.out.c0)
  have GE := Lib.hid (grown_one GB.out (hxE.grownBy _))
  have NE : Hid (∀ v, (wB.alloc (Obj.cells #[.int .i64 rr] 3)).cell? ⟨cb, 1, none⟩ = some v → ∀ q', v.ownBlock = some q' → ob < q') := Lib.hid (fun v hv q' hq => NB.out v (by
    obtain ⟨v2, h1, -⟩ := CB.out.c1
    rw [hxE.cell h1] at hv
    rw [h1]; exact hv) q' hq)
  have CE := Lib.hid (CB.out.ext hxE)
  have OE := Lib.hid (OB.out.ext hxE)
  have ZE := Lib.hid (Nat.le_trans ZB.out hxE.size)
  clear hxE CDR G9 C9 Z9 O9 GA CA ZA NA OA
  generalize wB.alloc (Obj.cells #[.int .i64 rr] 3) = wE at *
  obtain ⟨q18, hq18⟩ : ∃ q18, wB.heap.size = q18 := ⟨_, rfl⟩
  have HQ18 := Lib.hid (show cb < q18 ∧ ob + 1 ≤ q18 ∧ q18 < wE.heap.size from by have h1 := HBL.out; have h2 := ZB.out; have h3 := World.block_lt_of_cell? wE _ KE.out; simp only at h3; omega)
  rw [hq18] at KE ⊢
  clear hq18 GB CB ZB NB OB HBL
  obtain ⟨RE, hRE, -, -⟩ := HRW.out _ GE.out
  have hrow : ∀ i, i < (rowsL (t.map (fof p)) (2 ^ (v - v / 2)) (2 ^ (v / 2))).length → (nthL (rowsL (t.map (fof p)) (2 ^ (v - v / 2)) (2 ^ (v / 2))) i).length = 2 ^ (v - v / 2) := fun i hi => by
    rw [rowsL_length] at hi
    rw [rowsL_nth _ _ _ _ hi, List.length_take, List.length_drop, List.length_map, HTL.out]
    have h1 : 2 ^ v = 2 ^ (v / 2) * 2 ^ (v - v / 2) := by rw [← Nat.pow_add]; congr 1; omega
    rw [h1]
    have h2 : (i + 1) * 2 ^ (v - v / 2) ≤ 2 ^ (v / 2) * 2 ^ (v - v / 2) := Nat.mul_le_mul_right _ hi
    rw [Nat.add_mul] at h2
    omega
  have HROW := Lib.hid hrow
  have hr1 : 0 < (rowsL (t.map (fof p)) (2 ^ (v - v / 2)) (2 ^ (v / 2))).length := by rw [rowsL_length]; exact Nat.lt_of_lt_of_le Nat.zero_lt_one Nat.one_le_two_pow
  have hr2 : (rowsL (t.map (fof p)) (2 ^ (v - v / 2)) (2 ^ (v / 2))).length ≤ 4096 := by rw [rowsL_length]; exact pow12 (by omega)
  have HR1 := Lib.hid hr1; have HR2 := Lib.hid hr2
  have CWA := Lib.hid (by
    have := weighed_any (HFL.out.ext (HSW.out _ GE.out).2.x) v5 _ RE hRE (2 ^ (v - v / 2)) hr1 hrow (by have := HLB.out; omega) 31 (.pointer (some ⟨q16, 0, none⟩)) (.pointer (some ⟨q18, 0, none⟩)) (fun i => fpow p rr i) pop1_enter (fun W i hx hi => pop1_any (HFL.out.ext ((HSW.out _ GE.out).2.x.trans hx)) (hx.cell (HSW.out _ GE.out).2.t) (hx.cell (HSW.out _ GE.out).2.s0) rr (hx.cell KE.out) i (by omega))
    rw [rowsL_length] at this
    exact this)
  have t0 : wE.cell? ⟨q16, 0, none⟩ = some (.pointer (some ⟨ks, 0, none⟩)) := (HSW.out _ GE.out).2.t
  have t1 : wE.cell? ⟨ks, 0, none⟩ = some (.pointer (some ⟨bf, 0, none⟩)) := (HSW.out _ GE.out).2.s0
  obtain ⟨M1, hM1⟩ : ∃ M1, oMix p (fun i => fpow p rr i) v t = M1 := ⟨_, rfl⟩
  have HM1 := Lib.hid hM1
  rw [show mxU p (fun i => fpow p rr i) (rowsL (t.map (fof p)) (2 ^ (v - v / 2)) (2 ^ (v / 2))) (2 ^ (v - v / 2)) (2 ^ (v / 2)) = M1 from hM1] at CWA
  obtain ⟨Mc, hMc⟩ : ∃ Mc, 2 ^ (v - v / 2) = Mc := ⟨_, rfl⟩
  have HMC := Lib.hid hMc
  rw [hMc] at CWA
  clear hrow hr1 hr2 hM1 hMc hRE
  have z0 : wE.cell? ⟨ob, 1, none⟩ = some (.slice none 0 0) := OE.out.cell 1
  go_upto_region 16 with (go_at_call 30; refine CWA.out.mono ?_; rintro e wF ⟨vM, rfl, hx, hom⟩; obtain ⟨aM, cM, rfl⟩ := own_shape hom; have HXF := Lib.hid hx; have HOF := Lib.hid hom; have z1 := hx.cell z0; have z2 := (OE.out.ext hx).free 1; clear hx hom)
  have GG := Lib.hid (grown_low (grown_one GE.out (HXF.out.grownBy _)) (setCell_grown wF ob 1 (.slice aM Mc cM)) (fun k hk => by cases hk; exact Nat.le_of_eq HOW.out))
  have hdi : ∀ v, wF.cell? ⟨cb, 1, none⟩ = some v → ∀ q', v.ownBlock = some q' → ob < q' := fun v hv q' hq => NE.out v (by
    obtain ⟨v2, h1, -⟩ := CE.out.c1
    rw [HXF.out.cell h1] at hv
    rw [h1]; exact hv) q' hq
  have CG := Lib.hid ((CE.out.ext HXF.out).grown (setCell_grown wF ob 1 (.slice aM Mc cM)) (fun e => by have := HOB.out; have := Option.some.inj e; omega) (fun v hv q' hq e => by have := hdi v hv q' hq; have := Option.some.inj e; omega))
  have OG := Lib.hid ((OE.out.ext HXF.out).set 1 (.slice aM Mc cM))
  have ZG := Lib.hid (Nat.le_trans ZE.out (Nat.le_trans HXF.out.size (setCell_grown wF ob 1 (.slice aM Mc cM)).size))
  have PG := Lib.hid (show ∀ q', (Value.slice aM Mc cM).ownBlock = some q' → ob < q' from fun q' hq => by have h1 := (HOF.out.lt q' hq).1; have h2 := ZE.out; omega)
  have IG := Lib.hid ((Ints.of_own HOF.out).cell3 (b := ob) (fun q' hq => by have := PG.out q' hq; omega) 1 (.slice aM Mc cM))
  have KG := Lib.hid ((setCell_grown wF ob 1 (.slice aM Mc cM)).cell (HXF.out.cell KE.out) (fun e => by have := HQ18.out; have := Option.some.inj e; simp only at this; omega))
  clear z0 z1 z2 hdi HOF HXF CWA GE CE OE ZE NE KE t0 t1
  generalize wF.setCell ⟨ob, 1, none⟩ (.slice aM Mc cM) = wG at *
  have m1 : wG.cell? ⟨ob, 1, none⟩ = some (.slice aM Mc cM) := OG.out.cell 1
  have HL1 := Lib.hid (show M1.length = Mc from by rw [← HM1.out, ← HMC.out]; exact oMix_length _ _ _ _ HTL.out)
  go_upto_region 17 with (go_at_call 28; refine (ctake_any CG.out (HSW.out _ GG.out).1 (.slice aM Mc cM) M1 IG.out (by rw [stepP_length, HL1.out]; have := HLB.out; have := HMC.out; omega)).mono ?_; rintro e wH ⟨rfl, hg, hcc, hdg⟩; have GH := Lib.hid (grown_one GG.out hg); have CH := Lib.hid hcc; have ZH := Lib.hid (Nat.le_trans ZG.out hg.size); have NH : Hid (∀ v, wH.cell? ⟨cb, 1, none⟩ = some v → ∀ q', v.ownBlock = some q' → ob < q') := Lib.hid (fun v hv q' hq => by have h1 := hdg v hv q' hq; have h2 := ZG.out; omega); have OH := Lib.hid (OG.out.grown hg (fun e => by have := HOB.out; have := Option.some.inj e; omega)); have IH := Lib.hid (IG.out.grown hg (fun q' hq e => by have := PG.out q' hq; have := HOB.out; have := Option.some.inj e; omega)); clear hg hcc hdg)
  clear m1 GG CG ZG OG IG KG
  obtain ⟨RH, hRH, -, -⟩ := HRW.out _ GH.out
  have CWB := Lib.hid (by
    have := weighed_any (HFL.out.ext (HSW.out _ GH.out).2.x) v5 _ RH hRH (2 ^ (v - v / 2)) HR1.out HROW.out (by have := HLB.out; omega) 33 (.pointer (some ⟨q16, 0, none⟩)) (.pointer (some ⟨q, 0, none⟩)) (fun i => wgt (at_.take a) i % p) pop2_enter (fun W i hx hi => pop2_any (HFL.out.ext ((HSW.out _ GH.out).2.x.trans hx)) (hx.cell (HSW.out _ GH.out).2.t) (hx.cell (HSW.out _ GH.out).2.s0) (hx.cell (HSW.out _ GH.out).2.s2) (hx.cell (HSW.out _ GH.out).2.at_) (HA.out.ext ((HSW.out _ GH.out).2.x.trans hx)) (by rw [HAV.out]; have := HAC.out; omega) (by rw [HAV.out]; omega) i (by have := HR2.out; omega))
    rw [rowsL_length] at this
    exact this)
  have t0 : wH.cell? ⟨q16, 0, none⟩ = some (.pointer (some ⟨ks, 0, none⟩)) := (HSW.out _ GH.out).2.t
  have t1 : wH.cell? ⟨ks, 0, none⟩ = some (.pointer (some ⟨bf, 0, none⟩)) := (HSW.out _ GH.out).2.s0
  obtain ⟨M2, hM2⟩ : ∃ M2, oMix p (fun i => wgt (at_.take a) i % p) v t = M2 := ⟨_, rfl⟩
  have HM2 := Lib.hid hM2
  rw [show mxU p (fun i => wgt (at_.take a) i % p) (rowsL (t.map (fof p)) (2 ^ (v - v / 2)) (2 ^ (v / 2))) (2 ^ (v - v / 2)) (2 ^ (v / 2)) = M2 from hM2, HMC.out] at CWB
  clear hM2 hRH
  have z0 : wH.cell? ⟨ob, 2, none⟩ = some (.slice none 0 0) := OH.out.cell 2
  go_upto_region 18 with (go_at_call 30; refine CWB.out.mono ?_; rintro e wI ⟨vP, rfl, hx, hom⟩; obtain ⟨aP, cP, rfl⟩ := own_shape hom; have HXI := Lib.hid hx; have HOI := Lib.hid hom; have z1 := hx.cell z0; have z2 := (OH.out.ext hx).free 2; clear hx hom)
  have GJ := Lib.hid (grown_low (grown_one GH.out (HXI.out.grownBy _)) (setCell_grown wI ob 2 (.slice aP Mc cP)) (fun k hk => by cases hk; exact Nat.le_of_eq HOW.out))
  have hdi : ∀ v, wI.cell? ⟨cb, 1, none⟩ = some v → ∀ q', v.ownBlock = some q' → ob < q' := fun v hv q' hq => NH.out v (by
    obtain ⟨v2, h1, -⟩ := CH.out.c1
    rw [HXI.out.cell h1] at hv
    rw [h1]; exact hv) q' hq
  have CJ := Lib.hid ((CH.out.ext HXI.out).grown (setCell_grown wI ob 2 (.slice aP Mc cP)) (fun e => by have := HOB.out; have := Option.some.inj e; omega) (fun v hv q' hq e => by have := hdi v hv q' hq; have := Option.some.inj e; omega))
  have OJ := Lib.hid ((OH.out.ext HXI.out).set 2 (.slice aP Mc cP))
  have ZJ := Lib.hid (Nat.le_trans ZH.out (Nat.le_trans HXI.out.size (setCell_grown wI ob 2 (.slice aP Mc cP)).size))
  have PJ := Lib.hid (show ∀ q', (Value.slice aP Mc cP).ownBlock = some q' → ob < q' from fun q' hq => by have h1 := (HOI.out.lt q' hq).1; have h2 := ZH.out; omega)
  have IJ := Lib.hid ((Ints.of_own HOI.out).cell3 (b := ob) (fun q' hq => by have := PJ.out q' hq; omega) 2 (.slice aP Mc cP))
  have IJ1 := Lib.hid ((IH.out.ext HXI.out).cell3 (b := ob) (fun q' hq => by have := PG.out q' hq; omega) 2 (.slice aP Mc cP))
  clear z0 z1 z2 hdi HOI HXI CWB GH CH OH ZH NH t0 t1 IH
  generalize wI.setCell ⟨ob, 2, none⟩ (.slice aP Mc cP) = wJ at *
  have m2 : wJ.cell? ⟨ob, 2, none⟩ = some (.slice aP Mc cP) := OJ.out.cell 2
  have HL2 := Lib.hid (show M2.length = Mc from by rw [← HM2.out, ← HMC.out]; exact oMix_length _ _ _ _ HTL.out)
  go_upto_region 19 with (go_at_call 28; refine (ctake_any CJ.out (HSW.out _ GJ.out).1 (.slice aP Mc cP) M2 IJ.out (by rw [stepP_length, HL2.out]; have := HLB.out; have := HMC.out; omega)).mono ?_; rintro e wK ⟨rfl, hg, hcc, hdg⟩; have GK := Lib.hid (grown_one GJ.out hg); have CK := Lib.hid hcc; have ZK := Lib.hid (Nat.le_trans ZJ.out hg.size); have NK : Hid (∀ v, wK.cell? ⟨cb, 1, none⟩ = some v → ∀ q', v.ownBlock = some q' → ob < q') := Lib.hid (fun v hv q' hq => by have h1 := hdg v hv q' hq; have h2 := ZJ.out; omega); have OK := Lib.hid (OJ.out.grown hg (fun e => by have := HOB.out; have := Option.some.inj e; omega)); have IK1 := Lib.hid (IJ1.out.grown hg (fun q' hq e => by have := PG.out q' hq; have := HOB.out; have := Option.some.inj e; omega)); have IK2 := Lib.hid (IJ.out.grown hg (fun q' hq e => by have := PJ.out q' hq; have := HOB.out; have := Option.some.inj e; omega)); clear hg hcc hdg)
  clear m2 GJ CJ ZJ OJ IJ IJ1
  have E1 : o.mixed = M1 := by rw [HO1.out, HO0.out, HRR.out]; exact HM1.out
  have E2 : o.point = M2 := by rw [HO2.out, HLA.out]; exact HM2.out
  have HD5 : stepP p k 3 (stepP p k 3 (stepP p k 4 (stepP p k 3 (stepP p k 3 D (tabR p sh rt k n v t)) at_) []) M1) M2 = plD5 p k D o at_ := by unfold plD5 plD3 plD2; rw [E1, E2, HO0.out]
  have CK5 := Lib.hid (show ChP wK cb (.pointer (some ⟨bs, 0, none⟩)) (plD5 p k D o at_) from by rw [← HD5]; exact CK.out)
  have HE1 := Lib.hid E1; have HE2 := Lib.hid E2
  clear CK E1 E2 HD5
  have CSZ := Lib.hid (size_any (HDO.out.ext (HSW.out _ GK.out).2.x))
  have CDW : Hid (∀ m, Calls Tryz.prog 36 #[.pointer (some ⟨cb, 0, none⟩), .int .i64 n, .int .i64 asked] (wK.drewN m) fun e w' => ∃ v, e = .returned v ∧ (wK.drewN m).grownBy w' (some cb) ∧ ChP w' cb (.pointer (some ⟨bs, 0, none⟩)) (drwS p k (plD5 p k D o at_) asked) ∧ Ints w' v (plL p k D o at_ n asked) ∧ NewIn (wK.drewN m) v) := Lib.hid fun m => cdrawn_any h2p hp2 (CK5.out.ext (Ext.drewN _ m)) (fun w' hg => (HSW.out _ (grown_one (grown_one GK.out ((Ext.drewN wK m).grownBy _)) hg)).1) (stepP_length _ _ _ _ _) n (by have := HN.out; omega) (by have := HN.out; omega) asked ha1 ha2
  have HCN := Lib.hid (show (oCol p sh rt n v t).length = n from colsL_length _ _ _ _ _)
  have HCW := Lib.hid (show ∀ i, i < (oCol p sh rt n v t).length → (nthL (oCol p sh rt n v t) i).length ≤ 4294960000 from fun i hi => by rw [HCN.out] at hi; unfold oCol; rw [colsL_row _ _ _ _ _ _ hi, rowsL_length]; have := pow12 (k := v / 2) (by omega); omega)
  have CTO : Hid (∀ W vL, w7.grownBy W (some cb) → Ints W vL (plL p k D o at_ n asked) → Calls Tryz.prog 35 #[.pointer (some ⟨bs, 0, none⟩), v6, vL] W (Gives W fun u w' => ∃ a b c, u = .tuple #[.agg #[a, b, c], .nilIface] ∧ Ints w' a o.places ∧ NewIn W a ∧ RwsN W.heap.size w' b o.rows ∧ RwsN W.heap.size w' c o.nodes)) := Lib.hid fun W vL hg hi => by
    obtain ⟨T, hT, -, -⟩ := HLW.out W hg
    have := topen_any (HSW.out W hg).1 hT (by rw [HCN.out]; exact HN.out.1) (by rw [HCN.out]; exact HN.out.2) HCW.out hi (plL_some ha1) (by have := plL_len (p := p) (k := k) (D := D) (o := o) (at_ := at_) (n := (n : Int)) (asked := asked); omega) (fun x hx => by rw [HCN.out]; exact plL_all (by have := HN.out; omega) x hx)
    rw [HCN.out, show onceL (plL p k D o at_ n asked) = plL p k D o at_ n asked from once_once _, ← HO3.out, ← HO4.out, ← HO5.out] at this
    exact this
  have z3 : wK.cell? ⟨ob, 3, none⟩ = some (.slice none 0 0) := OK.out.cell 3
  go_upto_region 20 with (first | (go_at_call 37; refine CSZ.out.mono ?_; rintro e w' ⟨rfl, mS, rfl⟩) | (go_at_call 36; refine (CDW.out _).mono ?_; rintro e wL ⟨vL, rfl, hg, hch, hoL, -⟩; have hg2 := grown_one ((Ext.drewN wK mS).grownBy (some cb)) hg; have HKL2 := Lib.hid hg2; have GL := Lib.hid (grown_one GK.out hg2); have CL := Lib.hid hch; have HL := Lib.hid hoL; clear hg hg2 hch hoL) | (go_at_call 35; refine (CTO.out _ _ GL.out HL.out).mono ?_; rintro e wM ⟨u, rfl, hx, pa, pb, pc, rfl, hia, hna, hrb, hrc⟩; obtain ⟨a1, n1, c1, rfl⟩ : ∃ a n c, pa = .slice a n c := (let ⟨x, y, h⟩ := hia.shape; ⟨_, _, _, h⟩); obtain ⟨a2, n2, c2, rfl⟩ : ∃ a n c, pb = .slice a n c := (let ⟨T, h1, _⟩ := hrb; let ⟨x, y, h⟩ := h1.shape; ⟨_, _, _, h⟩); obtain ⟨a3, n3, c3, rfl⟩ : ∃ a n c, pc = .slice a n c := (let ⟨T, h1, _⟩ := hrc; let ⟨x, y, h⟩ := h1.shape; ⟨_, _, _, h⟩); have OM := Lib.hid ((OK.out.grown HKL2.out (fun e => by have := HOB.out; have := Option.some.inj e; omega)).ext hx); have HXM := Lib.hid hx; have HIA := Lib.hid hia; have HNA := Lib.hid hna; have HRB := Lib.hid hrb; have HRC := Lib.hid hrc; have y3 : wM.cell? ⟨ob, 3, none⟩ = some (.slice none 0 0) := OM.out.cell 3; have y4 : wM.cell? ⟨ob, 4, none⟩ = some (.slice none 0 0) := OM.out.cell 4; have y5 : wM.cell? ⟨ob, 5, none⟩ = some (.slice none 0 0) := OM.out.cell 5; have x3 := OM.out.free 3; have x4 := OM.out.free 4; have x5 := OM.out.free 5; clear hx hia hna hrb hrc))
  have g3 := grown_one (grown_one (setCell_grown wM ob 3 (.slice a1 n1 c1)) (setCell_grown _ ob 4 (.slice a2 n2 c2))) (setCell_grown _ ob 5 (.slice a3 n3 c3))
  have ON := Lib.hid (show BlkOf (((wM.setCell ⟨ob, 3, none⟩ (.slice a1 n1 c1)).setCell ⟨ob, 4, none⟩ (.slice a2 n2 c2)).setCell ⟨ob, 5, none⟩ (.slice a3 n3 c3)) ob [.slice a7 4 c7, .slice aM Mc cM, .slice aP Mc cP, .slice a1 n1 c1, .slice a2 n2 c2, .slice a3 n3 c3] 33 from ((OM.out.set 3 _).set 4 _).set 5 _)
  have ZL := Lib.hid (show ob < wL.heap.size from Nat.lt_of_lt_of_le OK.out.lt HKL2.out.size)
  have GN := Lib.hid (grown_low (grown_one GL.out (HXM.out.grownBy _)) g3 (fun k hk => by cases hk; exact Nat.le_of_eq HOW.out))
  have CN := Lib.hid ((CL.out.ext HXM.out).grown g3 (fun e => by have := HOB.out; have := Option.some.inj e; omega) (fun v2 hv q' hq e => by
    obtain ⟨v3, h1, h2⟩ := (CL.out.ext HXM.out).c1
    rw [h1] at hv
    obtain rfl := Option.some.inj hv
    exact ints_not_in h2 (by have h9 := drwS_length p k (show (plD5 p k D o at_).length = 4 from stepP_length _ _ _ _ _) asked; omega) OM.out (by intro u hu; simp at hu; rcases hu with rfl | rfl | rfl | rfl <;> exact ⟨_, _, _, rfl⟩) q' hq (Option.some.inj e)))
  have IN1 := Lib.hid (((IK1.out.grown HKL2.out (fun q' hq e => by have := PG.out q' hq; have := HOB.out; have := Option.some.inj e; omega)).ext HXM.out).grown g3 (fun q' hq e => by have := PG.out q' hq; have := Option.some.inj e; omega))
  have IN2 := Lib.hid (((IK2.out.grown HKL2.out (fun q' hq e => by have := PJ.out q' hq; have := HOB.out; have := Option.some.inj e; omega)).ext HXM.out).grown g3 (fun q' hq e => by have := PJ.out q' hq; have := Option.some.inj e; omega))
  have IN3 := Lib.hid (HIA.out.grown g3 (fun q' hq e => by have := HNA.out q' hq; have := ZL.out; have := Option.some.inj e; omega))
  have IN4 := Lib.hid (HRB.out.grown g3 ZL.out)
  have IN5 := Lib.hid (HRC.out.grown g3 ZL.out)
  clear g3 y3 y4 y5 x3 x4 x5 z3 CSZ CDW CTO GK CK5 ZK NK OK IK1 IK2 HKL2 GL CL HL OM HXM HIA HRB HRC
  generalize ((wM.setCell ⟨ob, 3, none⟩ (.slice a1 n1 c1)).setCell ⟨ob, 4, none⟩ (.slice a2 n2 c2)).setCell ⟨ob, 5, none⟩ (.slice a3 n3 c3) = wN at *
  go_upto_region 22 with (fail)
  have HSN := Lib.hid (HSW.out _ GN.out)
  have HZ := Lib.hid (show plN p (v / 2) (v - v / 2) at_ o = dtU p (nth M2) (unitsL p (at_.drop a) M2.length) M2.length from by unfold plN; rw [HE2.out, HL2.out, HMC.out, HLA.out])
  obtain ⟨zz, hzz⟩ : ∃ zz, dtU p (nth M2) (unitsL p (at_.drop a) M2.length) M2.length = zz := ⟨_, rfl⟩
  have HZZ := Lib.hid hzz
  rw [hzz] at HZ
  have CIS := Lib.hid (fun W (hx : Ext wN W) => by have := pis_any (HFL.out.ext (HSN.out.2.x.trans hx)) (hx.cell HSN.out.2.s0) (hx.cell HSN.out.2.s2) (IN2.out.ext hx) (HA.out.ext (HSN.out.2.x.trans hx)) (by rw [HAV.out]; have := HAC.out; omega) (by rw [HAV.out]; omega); rw [HZZ.out] at this; exact this)
  clear hzz
  refine wp_region_ext 6 [SP.eq (.agg #[.slice a7 4 c7, .slice aM Mc cM, .slice aP Mc cP, .slice a1 n1 c1, .slice a2 n2 c2, .slice a3 n3 c3]), SP.eq (.pointer (some ⟨ks, 0, none⟩)), SP.eq (.pointer (some ⟨ob, 2, none⟩)), SP.eq (.slice aP Mc cP), SP.eq (.slice aa v ac), SP.eq (.int .i64 zz)] (by kernel_rfl) (by kernel_rfl) (by kernel_rfl) ?_ ?_
  · refine ⟨?_, ?_, ?_, ?_, ?_, ?_, trivial⟩
    · refine ExtStep.mk rfl fun vs W hx hd => ?_
      clear hd
      simp only [fillA, fillL, dstL, List.take_succ_cons, List.take_zero, List.filterMap_cons, List.filterMap_nil, List.contains_cons, List.contains_nil, Nat.reduceAdd, Nat.zero_add, Nat.reduceBEq, Bool.or_false, Bool.or_true, Bool.false_eq_true, ↓reduceIte]
      have k0 := hx.cell (ON.out.cell 0)
      have k1 := hx.cell (ON.out.cell 1)
      have k2 := hx.cell (ON.out.cell 2)
      have k3 := hx.cell (ON.out.cell 3)
      have k4 := hx.cell (ON.out.cell 4)
      have k5 := hx.cell (ON.out.cell 5)
      go_wp2_with fail
      exact ⟨by trivial, Ext.refl _, rfl⟩
    · refine ExtStep.mk rfl fun vs W hx hd => ?_
      clear hd
      simp only [fillA, fillL, dstL, List.take_succ_cons, List.take_zero, List.filterMap_cons, List.filterMap_nil, List.contains_cons, List.contains_nil, Nat.reduceAdd, Nat.zero_add, Nat.reduceBEq, Bool.or_false, Bool.or_true, Bool.false_eq_true, ↓reduceIte]
      have k0 := hx.cell HSN.out.2.t
      go_wp2_with fail
      exact ⟨by trivial, Ext.refl _, rfl⟩
    · refine ExtStep.mk rfl fun vs W hx hd => ?_
      clear hd
      simp only [fillA, fillL, dstL, List.take_succ_cons, List.take_zero, List.filterMap_cons, List.filterMap_nil, List.contains_cons, List.contains_nil, Nat.reduceAdd, Nat.zero_add, Nat.reduceBEq, Bool.or_false, Bool.or_true, Bool.false_eq_true, ↓reduceIte]
      go_wp2_with fail
      exact ⟨by trivial, Ext.refl _, rfl⟩
    · refine ExtStep.mk rfl fun vs W hx hd => ?_
      have e122 : vs 122 = (.pointer (some ⟨ob, 2, none⟩)) := hd 2 (by kernel_rfl)
      clear hd
      simp only [fillA, fillL, dstL, List.take_succ_cons, List.take_zero, List.filterMap_cons, List.filterMap_nil, List.contains_cons, List.contains_nil, Nat.reduceAdd, Nat.zero_add, Nat.reduceBEq, Bool.or_false, Bool.or_true, Bool.false_eq_true, ↓reduceIte]
      rw [e122]
      have k2 := hx.cell (ON.out.cell 2)
      go_wp2_with fail
      exact ⟨by trivial, Ext.refl _, rfl⟩
    · refine ExtStep.mk rfl fun vs W hx hd => ?_
      clear hd
      simp only [fillA, fillL, dstL, List.take_succ_cons, List.take_zero, List.filterMap_cons, List.filterMap_nil, List.contains_cons, List.contains_nil, Nat.reduceAdd, Nat.zero_add, Nat.reduceBEq, Bool.or_false, Bool.or_true, Bool.false_eq_true, ↓reduceIte]
      have k0 := hx.cell HSN.out.2.at_
      go_wp2_with fail
      exact ⟨by trivial, Ext.refl _, rfl⟩
    · refine ExtStep.mk rfl fun vs W hx hd => ?_
      have e121 : vs 121 = (.pointer (some ⟨ks, 0, none⟩)) := hd 1 (by kernel_rfl)
      have e123 : vs 123 = (.slice aP Mc cP) := hd 3 (by kernel_rfl)
      have e124 : vs 124 = (.slice aa v ac) := hd 4 (by kernel_rfl)
      clear hd
      simp only [fillA, fillL, dstL, List.take_succ_cons, List.take_zero, List.filterMap_cons, List.filterMap_nil, List.contains_cons, List.contains_nil, Nat.reduceAdd, Nat.zero_add, Nat.reduceBEq, Bool.or_false, Bool.or_true, Bool.false_eq_true, ↓reduceIte]
      rw [e121, e123, e124]
      go_wp2_with (go_at_call 38; refine (CIS.out _ hx).mono ?_; rintro e w3 ⟨rfl, hx3⟩)
      exact ⟨by trivial, hx3, rfl⟩
  · intro vs w5 hx5 hall
    have e120 : vs 120 = (.agg #[.slice a7 4 c7, .slice aM Mc cM, .slice aP Mc cP, .slice a1 n1 c1, .slice a2 n2 c2, .slice a3 n3 c3]) := hall.at 0 (by omega) rfl
    have e125 : vs 125 = .int .i64 zz := hall.at 5 (by omega) rfl
    have HX5 := Lib.hid hx5
    clear hall hx5
    simp only [fillA, fillL, dstL, List.take_succ_cons, List.take_zero, List.filterMap_cons, List.filterMap_nil, List.contains_cons, List.contains_nil, Nat.reduceAdd, Nat.zero_add, Nat.reduceBEq, Bool.or_false, Bool.or_true, Bool.false_eq_true, ↓reduceIte]
    rw [e120, e125]
    have BO := Lib.hid (HSN.out.2.o.ext HX5.out)
    have y0 : w5.cell? ⟨q + 1, 0, none⟩ = some (.slice none 0 0) := BO.out.cell 0
    have y1 : w5.cell? ⟨q + 1, 1, none⟩ = some (.slice none 0 0) := BO.out.cell 1
    have y2 : w5.cell? ⟨q + 1, 2, none⟩ = some (.slice none 0 0) := BO.out.cell 2
    have y3 : w5.cell? ⟨q + 1, 3, none⟩ = some (.slice none 0 0) := BO.out.cell 3
    have y4 : w5.cell? ⟨q + 1, 4, none⟩ = some (.slice none 0 0) := BO.out.cell 4
    have y5 : w5.cell? ⟨q + 1, 5, none⟩ = some (.slice none 0 0) := BO.out.cell 5
    have x0 := BO.out.free 0
    have x1 := BO.out.free 1
    have x2 := BO.out.free 2
    have x3 := BO.out.free 3
    have x4 := BO.out.free 4
    have x5 := BO.out.free 5
    go_wp2_with fail
    have gz := grown_one (grown_one (grown_one (grown_one (grown_one (setCell_grown w5 (q + 1) 0 (.slice a7 4 c7)) (setCell_grown _ (q + 1) 1 (.slice aM Mc cM))) (setCell_grown _ (q + 1) 2 (.slice aP Mc cP))) (setCell_grown _ (q + 1) 3 (.slice a1 n1 c1))) (setCell_grown _ (q + 1) 4 (.slice a2 n2 c2))) (setCell_grown _ (q + 1) 5 (.slice a3 n3 c3))
    have bz := (((((BO.out.set 0 (.slice a7 4 c7)).set 1 (.slice aM Mc cM)).set 2 (.slice aP Mc cP)).set 3 (.slice a1 n1 c1)).set 4 (.slice a2 n2 c2)).set 5 (.slice a3 n3 c3)
    have d0 : _ = some (Value.slice a7 4 c7) := bz.cell 0
    have d1 : _ = some (Value.slice aM Mc cM) := bz.cell 1
    have d2 : _ = some (Value.slice aP Mc cP) := bz.cell 2
    have d3 : _ = some (Value.slice a1 n1 c1) := bz.cell 3
    have d4 : _ = some (Value.slice a2 n2 c2) := bz.cell 4
    have d5 : _ = some (Value.slice a3 n3 c3) := bz.cell 5
    have hob := HOB.out
    have hzl := ZL.out
    have hhq := HQ16.out
    refine bodyPost_ret (v := .tuple #[(.agg #[.slice a7 4 c7, .slice aM Mc cM, .slice aP Mc cP, .slice a1 n1 c1, .slice a2 n2 c2, .slice a3 n3 c3]), .int .i64 zz, .nilIface]) (by simp [results, Tryz.results6, go_sem, d0, d1, d2, d3, d4, d5]) rfl ⟨_, _, _, _, _, _, by rw [HZ.out], ?_, ?_, ?_, ?_, ?_, ?_⟩
    · exact grown_low (grown_one G07.out (grown_one GN.out (HX5.out.grownBy (some cb)))) gz (fun k hk => by cases hk; have := HQW.out; omega)
    · exact (CN.out.ext HX5.out).grown gz (fun e => by have := Option.some.inj e; omega) (fun v2 hv q' hq e => by
        obtain ⟨v3, h1, h2⟩ := (CN.out.ext HX5.out).c1
        rw [h1] at hv
        obtain rfl := Option.some.inj hv
        exact ints_not_in h2 (by have h9 := drwS_length p k (show (plD5 p k D o at_).length = 4 from stepP_length _ _ _ _ _) asked; omega) BO.out (by intro u hu; simp at hu; subst hu; exact ⟨_, _, _, rfl⟩) q' hq (Option.some.inj e))
    · have hq7 := H7.out
      refine ⟨?_, ?_, ?_, ?_, ?_, ?_⟩
      · rw [HO0.out]; exact ((HTW.out _ GN.out).ext HX5.out).grown gz (fun q' hq e => by have := hq7 q' hq; have := Option.some.inj e; omega)
      · rw [HE1.out]; exact (IN1.out.ext HX5.out).grown gz (fun q' hq e => by have := PG.out q' hq; have := Option.some.inj e; omega)
      · rw [HE2.out]; exact (IN2.out.ext HX5.out).grown gz (fun q' hq e => by have := PJ.out q' hq; have := Option.some.inj e; omega)
      · exact (IN3.out.ext HX5.out).grown gz (fun q' hq e => by have := HNA.out q' hq; have := Option.some.inj e; omega)
      · exact ((IN4.out.ext HX5.out).grown gz (by omega)).rws
      · exact ((IN5.out.ext HX5.out).grown gz (by omega)).rws
    · have hqw := HQW.out
      rintro u (rfl | rfl | rfl | rfl) q' hq'
      · have := H7.out q' hq'; omega
      · have := PG.out q' hq'; omega
      · have := PJ.out q' hq'; omega
      · have := HNA.out q' hq'; omega
    · exact ((IN4.out.ext HX5.out).grown gz (by omega)).base (by have := HQW.out; omega)
    · exact ((IN5.out.ext HX5.out).grown gz (by omega)).base (by have := HQW.out; omega)
end
end Go.Proofs.YtfepefbehgbjpaaGreatDoor
