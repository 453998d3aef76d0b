/- Whether one of rows answers a closure; the closures of lengths: contracts. Whether an opening shows just these places, in rows of a width: attestref5.Shows: contract. How a pledge that came in reads: three lists, and an opening of a list and two lists of lists; how long they are. What a pledge says, in plain words: what both sides' Check come to. No program in sight. What a pledge says, the document's side: attestref12.Check: contract. -/
import Derived.Test.YtcpnidomdkaefaaGreatDoorNk
import Derived.Test.YtcpnidomdkaefaaGreatDoorNi
import Derived.Test.YtcpnidomdkaefaaGreatDoorZx16
import Derived.Test.YtcpnidomdkaefaaGreatDoorNm
import Derived.Test.YtcpnidomdkaefaaGreatDoorJc
section
namespace Go.Proofs.YtcpnidomdkaefaaGreatDoor
open Go.RowKit Go.Att
set_option maxRecDepth 100000 in
set_option maxHeartbeats 1000000 in
theorem containsI0_any {w : World} {vr : Value} {rows : List (List Int)} {R : Nat → Value} (hv : RwsAt w vr rows R) (fid : FuncId) (P : List Int → Bool) (hfid : ∀ (xs : Array Value) (W : World), (callFunc fid xs).run Tryz.prog W = .ok (.enter fid xs) W)
    (hc : ∀ (W : World) (i : Nat), Ext w W → i < rows.length → Calls Tryz.prog fid #[R i] W (Rd W (.bool (P (nthL rows i))))) :
    Calls Tryz.prog 93 #[vr, .func (.func fid) #[] #[]] w (RdI w fun r => decide (0 ≤ r) = rows.any P) := by
  have hl := hv.run_len (P := Tryz.prog) slRows
  have hlen := hv.len
  have HV := Lib.hid hv; have HC := Lib.hid hc
  clear hv hc
  go_enter Tryz.func93, Tryz.ntmps93
  go_wp2
  go_loopw [5, 8] (fun _ x8 wr => ∃ i : Nat, i ≤ rows.length ∧ x8 = .int .i64 i ∧ Hid (∀ j, j < i → P (nthL rows j) = false) ∧ Hid (∃ m, wr = w.drewN m)) (fun _ x8 _ => rows.length - (intOf x8).toNat)
  case atStart => exact ⟨0, Nat.zero_le _, rfl, Lib.hid (fun j hj => by omega), Lib.hid ⟨0, rfl⟩⟩
  case round =>
    obtain ⟨i, hi, rfl, H, HM⟩ := hrel
    obtain ⟨m, hm⟩ := HM.out
    have HX := Lib.hid (show Ext w wr from by rw [hm]; exact Ext.drewN _ _)
    clear hm
    by_cases hlt : i < rows.length
    · have hix := HV.out.run_index (P := Tryz.prog) slRows i hlt
      have hcell := HX.out.cell (HV.out.cell i hlt)
      have HCI := Lib.hid (HC.out wr i HX.out hlt)
      cases he : P (nthL rows i) with
      | false =>
        have HE := Lib.hid he
        rw [he] at HCI
        clear he
        go_wp2_with fail
        refine HCI.out.mono ?_
        rintro e w' ⟨rfl, m2, rfl⟩
        go_wp2_with fail
        go_roundw
        case rel => exact ⟨i + 1, by omega, by go_num, Lib.hid (fun j hj => by
            rcases Nat.lt_or_eq_of_le (show j ≤ i by omega) with h | rfl
            · exact H.out j h
            · exact HE.out), Lib.hid (by obtain ⟨m, hm⟩ := HM.out; exact ⟨m + m2, by rw [hm]; show World.drewN (World.drewN w m) m2 = _; simp [World.drewN, Nat.add_assoc]⟩)⟩
        case measure => simp [intOf]; omega
      | true =>
        have HA := Lib.hid (show rows.any P = true from List.any_eq_true.2 ⟨nthL rows i, by rw [nthL_eq hlt]; exact List.getElem_mem hlt, he⟩)
        rw [he] at HCI
        clear he
        go_wp2_with fail
        refine HCI.out.mono ?_
        rintro e w' ⟨rfl, m2, rfl⟩
        go_wp2_with fail
        go_ret
        exact ⟨i, by rw [HA.out]; simp, rfl, by obtain ⟨m, hm⟩ := HM.out; exact ⟨m + m2, by rw [hm]; show World.drewN (World.drewN w m) m2 = _; simp [World.drewN, Nat.add_assoc]⟩⟩
    · obtain rfl : i = rows.length := by omega
      have HA := Lib.hid (show rows.any P = false by
        rw [List.any_eq_false]
        intro l hl
        obtain ⟨j, hj, rfl⟩ := List.getElem_of_mem hl
        have := H.out j hj
        rw [nthL_eq hj] at this; simp [this])
      go_wp2_with fail
      go_ret
      exact ⟨-1, by rw [HA.out]; rfl, rfl, HM.out⟩
set_option maxRecDepth 100000 in
theorem contains0_any {w : World} {vr : Value} {rows : List (List Int)} {R : Nat → Value} (hv : RwsAt w vr rows R) (fid : FuncId) (P : List Int → Bool) (hfid : ∀ (xs : Array Value) (W : World), (callFunc fid xs).run Tryz.prog W = .ok (.enter fid xs) W)
    (hc : ∀ (W : World) (i : Nat), Ext w W → i < rows.length → Calls Tryz.prog fid #[R i] W (Rd W (.bool (P (nthL rows i))))) :
    Calls Tryz.prog 39 #[vr, .func (.func fid) #[] #[]] w (Rd w (.bool (rows.any P))) := by
  have CI := Lib.hid (containsI0_any hv fid P hfid hc)
  clear hv hc
  go_enter Tryz.func39, Tryz.ntmps39
  go_wp2_with fail
  refine CI.out.mono ?_
  rintro e w' ⟨r, hr, rfl, m, rfl⟩
  have HR := Lib.hid hr
  clear hr
  go_wp2_with fail
  go_ret
  exact .more _ (ret_bool HR.out)
set_option maxRecDepth 100000 in
set_option maxHeartbeats 1000000 in
theorem containsI1_any {w : World} {vr : Value} {rows : List (List Int)} {R : Nat → Value} (hv : RwsAt w vr rows R) (fid : FuncId) (c1 : Value) (P : List Int → Bool) (hfid : ∀ (xs : Array Value) (W : World), (callFunc fid xs).run Tryz.prog W = .ok (.enter fid xs) W)
    (hc : ∀ (W : World) (i : Nat), Ext w W → i < rows.length → Calls Tryz.prog fid #[R i, c1] W (Rd W (.bool (P (nthL rows i))))) :
    Calls Tryz.prog 93 #[vr, .func (.func fid) #[] #[c1]] w (RdI w fun r => decide (0 ≤ r) = rows.any P) := by
  have hl := hv.run_len (P := Tryz.prog) slRows
  have hlen := hv.len
  have HV := Lib.hid hv; have HC := Lib.hid hc
  clear hv hc
  go_enter Tryz.func93, Tryz.ntmps93
  go_wp2
  go_loopw [5, 8] (fun _ x8 wr => ∃ i : Nat, i ≤ rows.length ∧ x8 = .int .i64 i ∧ Hid (∀ j, j < i → P (nthL rows j) = false) ∧ Hid (∃ m, wr = w.drewN m)) (fun _ x8 _ => rows.length - (intOf x8).toNat)
  case atStart => exact ⟨0, Nat.zero_le _, rfl, Lib.hid (fun j hj => by omega), Lib.hid ⟨0, rfl⟩⟩
  case round =>
    obtain ⟨i, hi, rfl, H, HM⟩ := hrel
    obtain ⟨m, hm⟩ := HM.out
    have HX := Lib.hid (show Ext w wr from by rw [hm]; exact Ext.drewN _ _)
    clear hm
    by_cases hlt : i < rows.length
    · have hix := HV.out.run_index (P := Tryz.prog) slRows i hlt
      have hcell := HX.out.cell (HV.out.cell i hlt)
      have HCI := Lib.hid (HC.out wr i HX.out hlt)
      cases he : P (nthL rows i) with
      | false =>
        have HE := Lib.hid he
        rw [he] at HCI
        clear he
        go_wp2_with fail
        refine HCI.out.mono ?_
        rintro e w' ⟨rfl, m2, rfl⟩
        go_wp2_with fail
        go_roundw
        case rel => exact ⟨i + 1, by omega, by go_num, Lib.hid (fun j hj => by
            rcases Nat.lt_or_eq_of_le (show j ≤ i by omega) with h | rfl
            · exact H.out j h
            · exact HE.out), Lib.hid (by obtain ⟨m, hm⟩ := HM.out; exact ⟨m + m2, by rw [hm]; show World.drewN (World.drewN w m) m2 = _; simp [World.drewN, Nat.add_assoc]⟩)⟩
        case measure => simp [intOf]; omega
      | true =>
        have HA := Lib.hid (show rows.any P = true from List.any_eq_true.2 ⟨nthL rows i, by rw [nthL_eq hlt]; exact List.getElem_mem hlt, he⟩)
        rw [he] at HCI
        clear he
        go_wp2_with fail
        refine HCI.out.mono ?_
        rintro e w' ⟨rfl, m2, rfl⟩
        go_wp2_with fail
        go_ret
        exact ⟨i, by rw [HA.out]; simp, rfl, by obtain ⟨m, hm⟩ := HM.out; exact ⟨m + m2, by rw [hm]; show World.drewN (World.drewN w m) m2 = _; simp [World.drewN, Nat.add_assoc]⟩⟩
    · obtain rfl : i = rows.length := by omega
      have HA := Lib.hid (show rows.any P = false by
        rw [List.any_eq_false]
        intro l hl
        obtain ⟨j, hj, rfl⟩ := List.getElem_of_mem hl
        have := H.out j hj
        rw [nthL_eq hj] at this; simp [this])
      go_wp2_with fail
      go_ret
      exact ⟨-1, by rw [HA.out]; rfl, rfl, HM.out⟩
set_option maxRecDepth 100000 in
theorem contains1_any {w : World} {vr : Value} {rows : List (List Int)} {R : Nat → Value} (hv : RwsAt w vr rows R) (fid : FuncId) (c1 : Value) (P : List Int → Bool) (hfid : ∀ (xs : Array Value) (W : World), (callFunc fid xs).run Tryz.prog W = .ok (.enter fid xs) W)
    (hc : ∀ (W : World) (i : Nat), Ext w W → i < rows.length → Calls Tryz.prog fid #[R i, c1] W (Rd W (.bool (P (nthL rows i))))) :
    Calls Tryz.prog 39 #[vr, .func (.func fid) #[] #[c1]] w (Rd w (.bool (rows.any P))) := by
  have CI := Lib.hid (containsI1_any hv fid c1 P hfid hc)
  clear hv hc
  go_enter Tryz.func39, Tryz.ntmps39
  go_wp2_with fail
  refine CI.out.mono ?_
  rintro e w' ⟨r, hr, rfl, m, rfl⟩
  have HR := Lib.hid hr
  clear hr
  go_wp2_with fail
  go_ret
  exact .more _ (ret_bool HR.out)
theorem fol2_enter (xs : Array Value) (W : World) : (callFunc 114 xs).run Tryz.prog W = .ok (.enter 114 xs) W := by kernel_rfl
/-- Is a list no digest? -/
theorem fol2_any {w : World} {v : Value} {l : List Int} (h : Ints w v l) : Calls Tryz.prog 114 #[v] w (Rd w (.bool (decide (l.length ≠ 4)))) := by
  have hl := h.run_len (P := Tryz.prog) slInts
  have hn := h.len
  clear h
  by_cases h4 : l.length = 4
  · rw [h4] at hl
    have HF := Lib.hid (show decide (l.length ≠ 4) = false from decide_eq_false (by omega))
    clear h4
    go_enter Tryz.func114, Tryz.ntmps114
    go_wp2
    go_ret
    exact .same (by rw [HF.out]; rfl)
  · have HF := Lib.hid (show decide (l.length ≠ 4) = true from decide_eq_true h4)
    have hne : ¬ ((l.length : Int) = 4) := by omega
    clear h4
    go_enter Tryz.func114, Tryz.ntmps114
    go_wp2
    go_ret
    exact .same (by rw [HF.out]; first | rfl | (congr 1; simp; omega) | (simp; omega))
end Go.Proofs.YtcpnidomdkaefaaGreatDoor
end
section
namespace Go.Att
open Go.RowKit
/-- Does an opening show just these places, in rows of a width? -/
def showsB (p : Int) (k : Nat) (root : List Int) (n : Nat) (pl : List Int) (rows nodes : List (List Int)) (L : List Int) (wd : Nat) : Bool := (pl == L) && (rows.all fun l => decide (l.length = wd)) && treeB p k root n pl rows nodes
end Go.Att
namespace Go.Proofs.YtcpnidomdkaefaaGreatDoor
open Go.RowKit Go.Att
end Go.Proofs.YtcpnidomdkaefaaGreatDoor
end
section
namespace Go.Att
open Go.RowKit
/-- A pledge, plain: root, mixed, point, places, rows, nodes. -/
structure Pld where
  root : List Int
  mixed : List Int
  point : List Int
  places : List Int
  rows : List (List Int)
  nodes : List (List Int)
/-- Its six slices read so. -/
structure PldAt (w : World) (a b c d e f : Value) (o : Pld) : Prop where
  root : Ints w a o.root
  mixed : Ints w b o.mixed
  point : Ints w c o.point
  places : Ints w d o.places
  rows : Rws w e o.rows
  nodes : Rws w f o.nodes
theorem PldAt.ext {w w' : World} {a b c d e f : Value} {o : Pld} (h : PldAt w a b c d e f o) (hx : Ext w w') : PldAt w' a b c d e f o :=
  ⟨h.root.ext hx, h.mixed.ext hx, h.point.ext hx, h.places.ext hx, let ⟨R, hR⟩ := h.rows; ⟨R, hR.ext hx⟩, let ⟨R, hR⟩ := h.nodes; ⟨R, hR.ext hx⟩⟩
/-- No list of it is longer than n. -/
structure PldLe (o : Pld) (n : Nat) : Prop where
  root : o.root.length ≤ n
  mixed : o.mixed.length ≤ n
  point : o.point.length ≤ n
  places : o.places.length ≤ n
  rows : o.rows.length ≤ n
  row : ∀ i, i < o.rows.length → (nthL o.rows i).length ≤ n
  nodes : o.nodes.length ≤ n
  node : ∀ i, i < o.nodes.length → (nthL o.nodes i).length ≤ n
end Go.Att
namespace Go.Proofs.YtcpnidomdkaefaaGreatDoor
open Go.RowKit Go.Att Go.ChangeShapes Go.WideShapes Go.Deep
section
variable {H : Type} {enc : TypeId × Value → H} {P : Program} {w : World} {base : Nat} {spare : Nat → Bool} {held : Bool}
theorem open_Pld {t e q to_ : TypeId} {f0 f1 f2 f3 g0 g1 g2 : Field} {cs : Array Value} {d : DataW H} {p : List MemPlace} (ht : P.underlying t = some (.struct #[f0, f1, f2, f3]))
    (o0 : f0.offset = 0) (o1 : f1.offset = 1) (o2 : f2.offset = 2) (o3 : f3.offset = 3) (c0 : P.cellsOf f0.type = 1) (c1 : P.cellsOf f1.type = 1) (c2 : P.cellsOf f2.type = 1) (c3 : P.cellsOf f3.type = 3)
    (u0 : f0.type = q) (u1 : f1.type = q) (u2 : f2.type = q) (u3 : f3.type = to_)
    (hto : P.underlying to_ = some (.struct #[g0, g1, g2])) (p0 : g0.offset = 0) (p1 : g1.offset = 1) (p2 : g2.offset = 2) (k0 : P.cellsOf g0.type = 1) (k1 : P.cellsOf g1.type = 1) (k2 : P.cellsOf g2.type = 1)
    (v0 : g0.type = q) (v1 : g1.type = e) (v2 : g2.type = e) {ti : TypeId} (he : P.underlying e = some (.slice q)) (hq : P.underlying q = some (.slice ti)) (hi : P.underlying ti = some (.int .i64)) (cq : P.cellsOf q = 1) (ci : P.cellsOf ti = 1)
    (hs : cs.size = 6) (hv : (Value.agg cs).cells.toList = cs.toList) (h : DataW.Trod enc P w base spare held t (.agg cs) d p) :
    ∃ (a b c x y z : Value) (o : Pld), cs = #[a, b, c, x, y, z] ∧ PldAt w a b c x y z o ∧ PldLe o (Rows.uptoBulk d) := by
  obtain ⟨fuel, hf⟩ := h
  rw [hv] at hf
  obtain ⟨xs, k, hk, hxy, _, hxl, hff⟩ := DataW.trod_struct ht hf
  obtain ⟨a, b, c, x, y, z, rfl⟩ : ∃ a b c x y z, cs = #[a, b, c, x, y, z] := by
    rcases cs with ⟨l⟩
    match l, hs with
    | [a, b, c, x, y, z], _ => exact ⟨a, b, c, x, y, z, rfl⟩
  match xs, hxl with
  | [y0, y1, y2, y3], _ =>
    have e0 := hff 0 f0 rfl
    have e1 := hff 1 f1 rfl
    have e2 := hff 2 f2 rfl
    have e3 := hff 3 f3 rfl
    simp [o0, o1, o2, o3, c0, c1, c2, c3] at e0 e1 e2 e3
    rw [u0] at e0
    rw [u1] at e1
    rw [u2] at e2
    rw [u3] at e3
    obtain ⟨l0, i0, n0⟩ := open_IntsF hq hi ci e0
    obtain ⟨l1, i1, n1⟩ := open_IntsF hq hi ci e1
    obtain ⟨l2, i2, n2⟩ := open_IntsF hq hi ci e2
    obtain ⟨xs', k', hk', hxy', _, hxl', hff'⟩ := DataW.trod_struct hto e3
    match xs', hxl' with
    | [z0, z1, z2], _ =>
      have d0 := hff' 0 g0 rfl
      have d1 := hff' 1 g1 rfl
      have d2 := hff' 2 g2 rfl
      simp [p0, p1, p2, k0, k1, k2] at d0 d1 d2
      rw [v0] at d0
      rw [v1] at d1
      rw [v2] at d2
      obtain ⟨l3, i3, n3⟩ := open_IntsF hq hi ci d0
      obtain ⟨l4, i4, n4⟩ := open_RwsF he hq hi cq ci d1
      obtain ⟨l5, i5, n5⟩ := open_RwsF he hq hi cq ci d2
      refine ⟨a, b, c, x, y, z, ⟨l0, l1, l2, l3, l4, l5⟩, rfl, ⟨i0, i1, i2, i3, i4, i5⟩, ?_⟩
      simp only [Prod.mk.injEq] at hxy
      obtain ⟨rfl, -⟩ := hxy
      have hxo := congrArg Prod.fst hxy'
      have q0 := bulks.row_le (show RowD l0 y0.1 from n0)
      have q1 := bulks.row_le (show RowD l1 y1.1 from n1)
      have q2 := bulks.row_le (show RowD l2 y2.1 from n2)
      have q3 := bulks.row_le (show RowD l3 z0.1 from n3)
      have q4 := bulks.rows_le n4
      have q5 := bulks.rows_le n5
      have hb := congrArg Rows.uptoBulk hxo
      simp only [Rows.uptoBulk, List.map_cons, List.map_nil, Rows.uptoBulkAll] at hb ⊢
      exact ⟨by simp only; omega, by simp only; omega, by simp only; omega, by simp only; omega, by simp only; omega, fun i hi => by have := bulks.rows_row_le n4 hi; simp only; omega, by simp only; omega, fun i hi => by have := bulks.rows_row_le n5 hi; simp only; omega⟩
end
end Go.Proofs.YtcpnidomdkaefaaGreatDoor
end
section
namespace Go.Att
open Go.RowKit
/-- The chain behind root and point; the number drawn then; the chain behind all; the places that are looked at. -/
def plD2 (p : Int) (k : Nat) (D : List Int) (o : Pld) (at_ : List Int) : List Int := stepP p k 3 (stepP p k 3 D o.root) at_
def plD3 (p : Int) (k : Nat) (D : List Int) (o : Pld) (at_ : List Int) : List Int := stepP p k 4 (plD2 p k D o at_) []
def plR (p : Int) (k : Nat) (D : List Int) (o : Pld) (at_ : List Int) : Int := nth (plD3 p k D o at_) 0
def plD5 (p : Int) (k : Nat) (D : List Int) (o : Pld) (at_ : List Int) : List Int := stepP p k 3 (stepP p k 3 (plD3 p k D o at_) o.mixed) o.point
def plL (p : Int) (k : Nat) (D : List Int) (o : Pld) (at_ : List Int) (n : Int) (asked : Nat) : List Int := onceL (plcL p k (plD5 p k D o at_) n asked)
/-- Is one place as the two lists say? -/
def plOk (p sh rt r : Int) (a : Nat) (at_ : List Int) (o : Pld) (L : List Int) (i : Nat) : Bool :=
  (dtU p (fun j => fpow p r j) (nthL o.rows i) (2 ^ a) == ev o.mixed (ptAt p sh rt (nth L i).toNat) % p) &&
  (dtU p (fun j => wgt (at_.take a) j % p) (nthL o.rows i) (2 ^ a) == ev o.point (ptAt p sh rt (nth L i).toNat) % p)
def plAll (p sh rt r : Int) (a : Nat) (at_ : List Int) (o : Pld) (L : List Int) : Bool := (List.range L.length).all (plOk p sh rt r a at_ o L)
/-- What the table is at the point. -/
def plN (p : Int) (a c : Nat) (at_ : List Int) (o : Pld) : Int := dtU p (nth o.point) (unitsL p (at_.drop a) (2 ^ c)) (2 ^ c)
def plShow (p : Int) (k : Nat) (n : Nat) (a : Nat) (o : Pld) (L : List Int) : Bool := showsB p k o.root n o.places o.rows o.nodes L (2 ^ a)
def plFit (c : Nat) (o : Pld) : Bool := decide (o.mixed.length = 2 ^ c) && decide (o.point.length = 2 ^ c)
/-- What a pledge says, where a table over v variables fits. -/
def plV (p : Int) (k : Nat) (sh rt : Int) (n : Nat) (D : List Int) (v : Nat) (at_ : List Int) (asked : Nat) (o : Pld) : Int × Bool :=
  if (plFit (v - v / 2) o && (plShow p k n (v / 2) o (plL p k D o at_ n asked) && plAll p sh rt (plR p k D o at_) (v / 2) at_ o (plL p k D o at_ n asked))) = true then (plN p (v / 2) (v - v / 2) at_ o, true) else (0, false)
theorem plAll_not {p sh rt r : Int} {a : Nat} {at_ : List Int} {o : Pld} {L : List Int} {i : Nat} (hi : i < L.length) (h : plOk p sh rt r a at_ o L i = false) : plAll p sh rt r a at_ o L = false := by
  cases hb : plAll p sh rt r a at_ o L with
  | false => rfl
  | true =>
    have := List.all_eq_true.1 hb i (List.mem_range.2 hi)
    rw [h] at this; cases this
theorem plAll_yes {p sh rt r : Int} {a : Nat} {at_ : List Int} {o : Pld} {L : List Int} (h : ∀ j, j < L.length → plOk p sh rt r a at_ o L j = true) : plAll p sh rt r a at_ o L = true := List.all_eq_true.2 fun i hi => h i (List.mem_range.1 hi)
theorem plL_in {p : Int} {k : Nat} {D : List Int} {o : Pld} {at_ : List Int} {n : Int} {asked : Nat} (hn : 1 ≤ n) {i : Nat} (hi : i < (plL p k D o at_ n asked).length) : 0 ≤ nth (plL p k D o at_ n asked) i ∧ nth (plL p k D o at_ n asked) i < n := by
  have := nth_mem hi
  exact plcL_in hn ((onceL_mem _).1 this)
theorem plL_len {p : Int} {k : Nat} {D : List Int} {o : Pld} {at_ : List Int} {n : Int} {asked : Nat} : (plL p k D o at_ n asked).length ≤ asked := by
  have := once_len (plcL p k (plD5 p k D o at_) n asked)
  rw [plcL_length] at this; exact this
/-- Where it shows, each row is as long. -/
theorem plShow_row {p : Int} {k n a : Nat} {o : Pld} {L : List Int} (h : plShow p k n a o L = true) : o.places = L ∧ o.rows.length = L.length ∧ ∀ i, i < o.rows.length → (nthL o.rows i).length = 2 ^ a := by
  unfold plShow showsB at h
  simp only [Bool.and_eq_true, beq_iff_eq, List.all_eq_true, decide_eq_true_eq] at h
  obtain ⟨⟨h1, h2⟩, h3⟩ := h
  unfold treeB at h3
  simp only [Bool.and_eq_true, decide_eq_true_eq] at h3
  refine ⟨h1, by rw [← h1]; exact h3.1.1.2, fun i hi => h2 _ (by rw [nthL_eq hi]; exact List.getElem_mem hi)⟩
end Go.Att
end
section
namespace Go.Proofs.YtcpnidomdkaefaaGreatDoor
open Go.RowKit Go.Att
/-- What the two boxes hold. -/
structure DocS (w0 : World) (q : Nat) (ds os : List Value) (W : World) : Prop where
  x : Ext w0 W
  d : BlkOf W q ds 37
  o : BlkOf W (q + 1) os 27
theorem DocS.ext {w0 W W' : World} {q : Nat} {ds os : List Value} (h : DocS w0 q ds os W) (hx : Ext W W') : DocS w0 q ds os W' := ⟨h.x.trans hx, h.d.ext hx, h.o.ext hx⟩
theorem DocS.grown {w0 W W' : World} {q b : Nat} {ds os : List Value} (h : DocS w0 q ds os W) (hg : W.grownBy W' (some b)) (hb : w0.heap.size ≤ b) (hq : b < q) : DocS w0 q ds os W' :=
  ⟨Below.grown h.x.below hg h.x.size (fun k e => by cases e; exact hb), h.d.grown hg (fun e => by have := Option.some.inj e; omega), h.o.grown hg (fun e => by have := Option.some.inj e; omega)⟩
/-- What is returned. -/
def PlGot (w : World) (b : Nat) (n : Int) (y : Bool) (e : Ending) (w' : World) : Prop := e = .returned (.tuple #[.int .i64 n, .bool y]) ∧ w.grownBy w' (some b)
section
variable {w0 w : World} {b : Nat} {p : Int} {k : Nat} {D : List Int} {va r0 r1 r2 r3 r4 r5 : Value} {at_ : List Int} {o : Pld} {sh rt : Int}
end
end Go.Proofs.YtcpnidomdkaefaaGreatDoor
end
