/- The root of a table, both sides: contracts. -/
import Derived.Test.YtaajjaadlpgbiaaGreatDoorJf
import Derived.Test.YtaajjaadlpgbiaaGreatDoorJk
import Derived.Test.YtaajjaadlpgbiaaGreatDoorJl
namespace Go.Att
open Go.RowKit
theorem ev_fofP {p : Int} (x : Int) : ∀ l : List Int, ev (l.map (fof p)) x % p = ev l x % p
  | [] => rfl
  | a :: l => by
    simp only [List.map_cons, ev]
    have h := ev_fofP (p := p) x l
    rw [show fof p a = a % p from rfl, Int.add_emod, Int.mul_emod, h, ← Int.mul_emod, Int.emod_emod_of_dvd _ (Int.dvd_refl p), ← Int.add_emod]
/-- The columns of rows of elements are those of the rows. -/
theorem colsL_fof (p sh r : Int) (n : Nat) (l : List Int) (M C : Nat) : colsL p sh r n (rowsL (l.map (fof p)) M C) = colsL p sh r n (rowsL l M C) := by
  unfold colsL colOf
  refine List.map_congr_left fun j _ => ?_
  unfold rowsL
  rw [List.map_map, List.map_map]
  refine List.map_congr_left fun i _ => ?_
  simp only [Function.comp]
  rw [← List.map_drop, ← List.map_take, ev_fofP]
theorem colsL_row (p sh r : Int) (n : Nat) (rows : List (List Int)) (i : Nat) (h : i < n) : (nthL (colsL p sh r n rows) i).length = rows.length := by
  rw [nthL_eq (by rw [colsL_length]; exact h)]; simp [colsL, colOf]
/-- The root of a table over 2^k places. -/
def tabR (p sh r : Int) (q N k : Nat) (l : List Int) : List Int := rootF p q N (colsL p sh r N (rowsL l (2 ^ (k - k / 2)) (2 ^ (k / 2))))
theorem pow12 {k : Nat} (h : k ≤ 12) : 2 ^ k ≤ 4096 := Nat.le_trans (Nat.pow_le_pow_right (by decide) h) (by decide)
end Go.Att
namespace Go.Proofs.YtaajjaadlpgbiaaGreatDoor
open Go.RowKit Go.Att
section
variable {w : World}
set_option maxRecDepth 100000 in
theorem tright_any (n : Nat) (h1 : 1 ≤ n) (h2 : n ≤ 65536) : Calls Tryz.prog 79 #[.int .i64 n] w fun e w' => e = .returned (.bool true) ∧ w = w' := by
  go_enter Tryz.func79, Tryz.ntmps79
  go_wp2_with fail
  go_ret
  exact ⟨by first | rfl | (congr; simp; omega), rfl⟩
set_option maxRecDepth 100000 in
set_option maxHeartbeats 4000000 in
theorem tRoot_any {bs : Nat} {p : Int} {q : Nat} (hs : Spg w (.pointer (some ⟨bs, 0, none⟩)) p q) {vr : Value} {L : List (List Int)} {R : Nat → Value} (hr : RwsAt w vr L R) (h1 : 1 ≤ L.length) (h2 : L.length ≤ 65536) (hrl : ∀ i, i < L.length → (nthL L i).length ≤ 4294960000) :
    Calls Tryz.prog 38 #[.pointer (some ⟨bs, 0, none⟩), vr] w (Gives w fun u w' => ∃ v, u = .tuple #[v, .nilIface] ∧ Ints w' v (rootF p q L.length L)) := by
  have hll := hr.run_len (P := Tryz.prog) slRows
  have C := Lib.hid (by
    have := troot_any hs hr h2 hrl L.length L.length 0 h1 (Nat.le_refl _) (by omega) w (Ext.refl w)
    rw [List.drop_zero, List.take_length, show ((0 : Nat) : Int) = 0 from rfl, Int.zero_add] at this
    exact this)
  have CR := Lib.hid (fun W => tright_any (w := W) L.length h1 h2)
  clear hs hr hrl
  go_enter Tryz.func38, Tryz.ntmps38
  go_wp2_with (first | (go_at_call 79; refine (CR.out _).mono ?_; rintro e w' ⟨rfl, rfl⟩) | (go_at_call 80; refine C.out.mono ?_; rintro e w2 ⟨v2, rfl, hx2, hi2⟩; have HI2 := Lib.hid hi2; clear hi2))
  go_ret2
  exact .mk _ rfl hx2 ⟨_, rfl, HI2.out⟩
section
variable {d : Value} {bf : Nat} {p g0 n sh rt : Int} {fs : List Int}
set_option maxRecDepth 100000 in
set_option maxHeartbeats 4000000 in
theorem pcommit_no (sv : Value) (hd : DomOf w d (.pointer (some ⟨bf, 0, none⟩)) n sh rt) (h1 : 1 ≤ n) (h2 : n ≤ 65536) {vt : Value} {l : List Int} (hv : Ints w vt l) (hb : varOf l.length < 0 ∨ roomB n (varOf l.length).toNat = false) :
    Calls Tryz.prog 15 #[sv, d, vt] w (Gives w fun u _ => u = .tuple #[.slice none 0 0, errv 2]) := by
  by_cases hn : varOf l.length < 0
  · have C := Lib.hid (of_no d hv hn)
    clear hd hv hb hn
    go_enter Tryz.func15, Tryz.ntmps15
    go_wp2_with (go_at_call 37; refine C.out.mono ?_; rintro e w' ⟨rfl, rfl⟩)
    go_ret2
    exact .mk _ rfl (Ext.refl _) rfl
  · have hbd := varOf_bd l.length
    have hpw := varOf_pow (n := (l.length : Int)) (by omega)
    have hrm : roomB n (varOf l.length).toNat = false := hb.resolve_left hn
    obtain ⟨k, hk⟩ : ∃ k, (varOf l.length).toNat = k := ⟨_, rfl⟩
    rw [hk] at hpw hrm
    have hlk : l.length = 2 ^ k := by
      have e1 : ((2 ^ k : Nat) : Int) = (2 : Int) ^ k := by simp
      omega
    have C := Lib.hid (of_ok hd h1 h2 hv k (by omega) hlk)
    have HRM := Lib.hid hrm
    clear hd hv hb hn hbd hpw hk hlk hrm
    go_enter Tryz.func15, Tryz.ntmps15
    go_wp2_with (go_at_call 37; refine C.out.mono ?_; rintro e w1 ⟨v1, rfl, hx1, s, rfl, hs⟩; rw [HRM.out])
    go_ret2
    exact .mk _ rfl hx1 rfl
set_option maxRecDepth 100000 in
set_option maxHeartbeats 4000000 in
theorem pcommit_ok {bs : Nat} {q : Nat} (hs : Spg w (.pointer (some ⟨bs, 0, none⟩)) p q) (hd : DomOf w d (.pointer (some ⟨bf, 0, none⟩)) n sh rt) (hf : Fld w (.pointer (some ⟨bf, 0, none⟩)) p g0 fs) (K : Nat) (hK : K ≤ 16) (hn : n = (2 : Int) ^ K) (hrt : ∀ m, K = m + 1 → rt ^ (2 ^ m) % p = (-1) % p)
    {vt : Value} {l : List Int} (hv : Ints w vt l) (k : Nat) (hk : k ≤ 12) (hl : l.length = 2 ^ k) (hrm : roomB n k = true) :
    Calls Tryz.prog 15 #[.pointer (some ⟨bs, 0, none⟩), d, vt] w (Gives w fun u w' => ∃ v, u = .tuple #[v, .nilIface] ∧ Ints w' v (tabR p sh rt q (2 ^ K) k l)) := by
  have hnK : n = ((2 ^ K : Nat) : Int) := by rw [hn]; simp
  have hp1 : 1 ≤ 2 ^ K := Nat.one_le_two_pow
  have hp2 : 2 ^ K ≤ 65536 := Nat.le_trans (Nat.pow_le_pow_right (by decide) hK) (by decide)
  have hM1 : 1 ≤ 2 ^ (k - k / 2) := Nat.one_le_two_pow
  have hrm2 : 2 ^ (k - k / 2) ≤ 2 ^ K ∧ 2 ≤ 2 ^ K := by
    unfold roomB at hrm
    rw [decide_eq_true_eq] at hrm
    have e1 : ((2 ^ (k - k / 2) : Nat) : Int) = (2 : Int) ^ (k - k / 2) := by simp
    omega
  have hK1 : 1 ≤ K := by
    cases K with
    | zero => simp at hrm2
    | succ K => omega
  have hCM : l.length = 2 ^ (k / 2) * 2 ^ (k - k / 2) := by rw [hl, ← Nat.pow_add]; congr 1; omega
  have hl4 : l.length ≤ 4096 := by rw [hl]; exact pow12 hk
  have hC4 : 2 ^ (k / 2) ≤ 4096 := pow12 (by omega)
  have CO := Lib.hid (of_ok hd (by omega) (by omega) hv k hk hl)
  have HRM := Lib.hid hrm
  have HS := Lib.hid hs; have HD := Lib.hid hd; have HF := Lib.hid hf; have HV := Lib.hid hv
  have CR := Lib.hid (fun (W : World) (s : Value) (hx : Ext w W) (hsh : ShpOf W s (.pointer (some ⟨bf, 0, none⟩)) d (k / 2) (k - k / 2)) => prows_any hsh (hf.ext hx) (by omega) (hv.ext hx) (2 ^ (k / 2)) hCM hl4)
  have CC := Lib.hid (fun (W : World) (s vr : Value) (hx : Ext w W) (hsh : ShpOf W s (.pointer (some ⟨bf, 0, none⟩)) d (k / 2) (k - k / 2)) (hr : Rws W vr (rowsL (l.map (fof p)) (2 ^ (k - k / 2)) (2 ^ (k / 2)))) => by
    obtain ⟨R, hR⟩ := hr
    have := pcols_any hsh (hd.ext hx) (hf.ext hx) K hK1 hK hn hrt hR (by rw [rowsL_length]; exact hC4) (fun i hi => by rw [rowsL_length] at hi; rw [rowsL_nth _ _ _ _ hi, List.length_take]; omega)
    rw [colsL_fof] at this
    exact this)
  have CT := Lib.hid (fun (W : World) (vr : Value) (hx : Ext w W) (hr : Rws W vr (colsL p sh rt (2 ^ K) (rowsL l (2 ^ (k - k / 2)) (2 ^ (k / 2))))) => by
    obtain ⟨R, hR⟩ := hr
    have := tRoot_any (hs.ext hx) hR (by rw [colsL_length]; exact hp1) (by rw [colsL_length]; exact hp2) (fun i hi => by rw [colsL_length] at hi; rw [colsL_row _ _ _ _ _ _ hi, rowsL_length]; omega)
    rw [colsL_length] at this
    exact this)
  unfold tabR
  generalize rowsL (l.map (fof p)) (2 ^ (k - k / 2)) (2 ^ (k / 2)) = r1 at *
  generalize colsL p sh rt (2 ^ K) (rowsL l (2 ^ (k - k / 2)) (2 ^ (k / 2))) = r2 at *
  clear hs hd hf hv hrt hn hnK hp1 hp2 hM1 hrm2 hCM hl4 hC4 hl hrm
  go_enter Tryz.func15, Tryz.ntmps15
  go_wp2_with (first | (go_at_call 37; refine CO.out.mono ?_; rintro e w1 ⟨v1, rfl, hx1, s, rfl, hsh⟩; rw [HRM.out]; have HX1 := Lib.hid hx1; have HSH := Lib.hid hsh; clear hx1 hsh) | (go_at_call 40; refine (CR.out _ _ HX1.out HSH.out).mono ?_; rintro e w2 ⟨v2, rfl, hx2, hr2⟩; have HX2 := Lib.hid (HX1.out.trans hx2); have HSH2 := Lib.hid (HSH.out.ext hx2); have HR2 := Lib.hid hr2; clear hx2 hr2) | (go_at_call 39; refine (CC.out _ _ _ HX2.out HSH2.out HR2.out).mono ?_; rintro e w3 ⟨v3, rfl, hx3, hr3⟩; have HX3 := Lib.hid (HX2.out.trans hx3); have HR3 := Lib.hid hr3; clear hx3 hr3) | (go_at_call 38; refine (CT.out _ _ HX3.out HR3.out).mono ?_; rintro e w4 ⟨v4, rfl, hx4, u4, rfl, hi4⟩; have HI4 := Lib.hid hi4; clear hi4))
  go_ret2
  exact .mk _ rfl (HX3.out.trans hx4) ⟨_, rfl, HI4.out⟩
end
set_option maxRecDepth 100000 in
set_option maxHeartbeats 4000000 in
theorem rRoot12_any {p sh r : Int} {q : Nat} (h23 : 23 ≤ p) (hp2 : p ≤ 2147483647) (hq : IsPw p q) (hsh : 0 ≤ sh ∧ sh < p) (N : Nat) (h1 : 1 ≤ N) (h2 : N ≤ 65536) {vt : Value} {l : List Int} (hv : Ints w vt l) (k : Nat) (hk : k ≤ 12) (hl : l.length = 2 ^ k) :
    Calls Tryz.prog 17 #[.agg #[.int .i64 p, .int .i64 (N : Int), .int .i64 sh, .int .i64 r], vt, .int .i64 k] w (Gives w fun u w' => Ints w' u (tabR p sh r q N k l)) := by
  have HB := Lib.hid (BlkOf.new w [.int .i64 p, .int .i64 (N : Int), .int .i64 sh, .int .i64 r] 39)
  have HX0 := Lib.hid (Ext.alloc w (Obj.cells #[.int .i64 p, .int .i64 (N : Int), .int .i64 sh, .int .i64 r] 39))
  have hC4 : 2 ^ (k / 2) ≤ 4096 := pow12 (by omega)
  have CR := Lib.hid (fun (W : World) (hx : Ext w W) => rrows_any (hv.ext hx) k hk hl)
  have CC := Lib.hid (fun (W : World) (vr : Value) (hr : Rws W vr (rowsL l (2 ^ (k - k / 2)) (2 ^ (k / 2)))) => by
    obtain ⟨R, hR⟩ := hr
    exact rcols_any (p := p) (sh := sh) (r := r) (by omega) hp2 hsh N h1 h2 hR (by rw [rowsL_length]; exact hC4))
  have CT := Lib.hid (fun (W : World) (vr : Value) (hr : Rws W vr (colsL p sh r N (rowsL l (2 ^ (k - k / 2)) (2 ^ (k / 2))))) => by
    obtain ⟨R, hR⟩ := hr
    exact rroot_any h23 hp2 hq N W vr _ R hR (by rw [colsL_length]; exact h1) (by rw [colsL_length]; exact Nat.le_refl _) (by rw [colsL_length]; exact h2) (fun i hi => by rw [colsL_length] at hi; rw [colsL_row _ _ _ _ _ _ hi, rowsL_length]; omega))
  unfold tabR
  generalize colsL p sh r N (rowsL l (2 ^ (k - k / 2)) (2 ^ (k / 2))) = r2 at *
  generalize rowsL l (2 ^ (k - k / 2)) (2 ^ (k / 2)) = r1 at *
  clear hv hl hC4
  go_enter Tryz.func17, Tryz.ntmps17
  go_upto_region 1 with (fail)
  generalize w.alloc (Obj.cells #[.int .i64 p, .int .i64 (N : Int), .int .i64 sh, .int .i64 r] 39) = W0 at *
  go_wp2_with (go_at_call 42; refine (CR.out _ HX0.out).mono ?_; rintro e w1 ⟨v1, rfl, hx1, hr1⟩; have HX1 := Lib.hid (HX0.out.trans hx1); have HR1 := Lib.hid hr1; have HB1 := Lib.hid (HB.out.ext hx1); have e0 : w1.cell? ⟨w.heap.size, 0, none⟩ = some (.int .i64 p) := HB1.out.cell 0; have e1 : w1.cell? ⟨w.heap.size, 1, none⟩ = some (.int .i64 (N : Int)) := HB1.out.cell 1; have e2 : w1.cell? ⟨w.heap.size, 2, none⟩ = some (.int .i64 sh) := HB1.out.cell 2; have e3 : w1.cell? ⟨w.heap.size, 3, none⟩ = some (.int .i64 r) := HB1.out.cell 3; clear hx1 hr1)
  refine (CC.out _ _ HR1.out).mono ?_
  rintro e w2 ⟨v2, rfl, hx2, hr2⟩
  have HX2 := Lib.hid (HX1.out.trans hx2)
  have HR2 := Lib.hid hr2
  have f0 : w2.cell? ⟨w.heap.size, 0, none⟩ = some (.int .i64 p) := (HB1.out.ext hx2).cell 0
  clear e0 e1 e2 e3 hx2 hr2
  go_wp2_with fail
  refine (CT.out _ _ HR2.out).mono ?_
  rintro e w3 ⟨v3, rfl, hx3, hi3⟩
  have HI3 := Lib.hid hi3
  clear hi3
  go_wp2_with fail
  go_ret
  exact .mk _ rfl (HX2.out.trans hx3) HI3.out
end
end Go.Proofs.YtaajjaadlpgbiaaGreatDoor
