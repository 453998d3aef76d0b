/- Whether one of rows answers a closure; the closures of lengths: contracts. Rows of a tree that are shown, the program's side: what tree.Open leans on; tree.Open: contract. Printed by wip/mkof.py. -/
import Derived.Test.YtfepefbehgbjpaaGreatDoorNk
import Derived.Test.YtfepefbehgbjpaaGreatDoorNi
import Derived.Test.YtfepefbehgbjpaaGreatDoorOe
import Derived.Test.YtfepefbehgbjpaaGreatDoorZx10
import Derived.Test.YtfepefbehgbjpaaGreatDoorZx14
import Derived.Test.YtfepefbehgbjpaaGreatDoorZx15
section
namespace Go.Proofs.YtfepefbehgbjpaaGreatDoor
open Go.RowKit Go.Att
set_option maxRecDepth 100000 in
set_option maxHeartbeats 1000000 in
theorem containsI0_any {w : World} {vr : Value} {rows : List (List Int)} {R : Nat → Value} (hv : RwsAt w vr rows R) (fid : FuncId) (P : List Int → Bool) (hfid : ∀ (xs : Array Value) (W : World), (callFunc fid xs).run Tryz.prog W = .ok (.enter fid xs) W)
    (hc : ∀ (W : World) (i : Nat), Ext w W → i < rows.length → Calls Tryz.prog fid #[R i] W (Rd W (.bool (P (nthL rows i))))) :
    Calls Tryz.prog 111 #[vr, .func (.func fid) #[] #[]] w (RdI w fun r => decide (0 ≤ r) = rows.any P) := by
  have hl := hv.run_len (P := Tryz.prog) slRows
  have hlen := hv.len
  have HV := Lib.hid hv; have HC := Lib.hid hc
  clear hv hc
  go_enter Tryz.func111, Tryz.ntmps111
  go_wp2
  go_loopw [5, 8] (fun _ x8 wr => ∃ i : Nat, i ≤ rows.length ∧ x8 = .int .i64 i ∧ Hid (∀ j, j < i → P (nthL rows j) = false) ∧ Hid (∃ m, wr = w.drewN m)) (fun _ x8 _ => rows.length - (intOf x8).toNat)
  case atStart => exact ⟨0, Nat.zero_le _, rfl, Lib.hid (fun j hj => by omega), Lib.hid ⟨0, rfl⟩⟩
  case round =>
    obtain ⟨i, hi, rfl, H, HM⟩ := hrel
    obtain ⟨m, hm⟩ := HM.out
    have HX := Lib.hid (show Ext w wr from by rw [hm]; exact Ext.drewN _ _)
    clear hm
    by_cases hlt : i < rows.length
    · have hix := HV.out.run_index (P := Tryz.prog) slRows i hlt
      have hcell := HX.out.cell (HV.out.cell i hlt)
      have HCI := Lib.hid (HC.out wr i HX.out hlt)
      cases he : P (nthL rows i) with
      | false =>
        have HE := Lib.hid he
        rw [he] at HCI
        clear he
        go_wp2_with fail
        refine HCI.out.mono ?_
        rintro e w' ⟨rfl, m2, rfl⟩
        go_wp2_with fail
        go_roundw
        case rel => exact ⟨i + 1, by omega, by go_num, Lib.hid (fun j hj => by
            rcases Nat.lt_or_eq_of_le (show j ≤ i by omega) with h | rfl
            · exact H.out j h
            · exact HE.out), Lib.hid (by obtain ⟨m, hm⟩ := HM.out; exact ⟨m + m2, by rw [hm]; show World.drewN (World.drewN w m) m2 = _; simp [World.drewN, Nat.add_assoc]⟩)⟩
        case measure => simp [intOf]; omega
      | true =>
        have HA := Lib.hid (show rows.any P = true from List.any_eq_true.2 ⟨nthL rows i, by rw [nthL_eq hlt]; exact List.getElem_mem hlt, he⟩)
        rw [he] at HCI
        clear he
        go_wp2_with fail
        refine HCI.out.mono ?_
        rintro e w' ⟨rfl, m2, rfl⟩
        go_wp2_with fail
        go_ret
        exact ⟨i, by rw [HA.out]; simp, rfl, by obtain ⟨m, hm⟩ := HM.out; exact ⟨m + m2, by rw [hm]; show World.drewN (World.drewN w m) m2 = _; simp [World.drewN, Nat.add_assoc]⟩⟩
    · obtain rfl : i = rows.length := by omega
      have HA := Lib.hid (show rows.any P = false by
        rw [List.any_eq_false]
        intro l hl
        obtain ⟨j, hj, rfl⟩ := List.getElem_of_mem hl
        have := H.out j hj
        rw [nthL_eq hj] at this; simp [this])
      go_wp2_with fail
      go_ret
      exact ⟨-1, by rw [HA.out]; rfl, rfl, HM.out⟩
set_option maxRecDepth 100000 in
theorem contains0_any {w : World} {vr : Value} {rows : List (List Int)} {R : Nat → Value} (hv : RwsAt w vr rows R) (fid : FuncId) (P : List Int → Bool) (hfid : ∀ (xs : Array Value) (W : World), (callFunc fid xs).run Tryz.prog W = .ok (.enter fid xs) W)
    (hc : ∀ (W : World) (i : Nat), Ext w W → i < rows.length → Calls Tryz.prog fid #[R i] W (Rd W (.bool (P (nthL rows i))))) :
    Calls Tryz.prog 60 #[vr, .func (.func fid) #[] #[]] w (Rd w (.bool (rows.any P))) := by
  have CI := Lib.hid (containsI0_any hv fid P hfid hc)
  clear hv hc
  go_enter Tryz.func60, Tryz.ntmps60
  go_wp2_with fail
  refine CI.out.mono ?_
  rintro e w' ⟨r, hr, rfl, m, rfl⟩
  have HR := Lib.hid hr
  clear hr
  go_wp2_with fail
  go_ret
  exact .more _ (ret_bool HR.out)
set_option maxRecDepth 100000 in
set_option maxHeartbeats 1000000 in
theorem containsI1_any {w : World} {vr : Value} {rows : List (List Int)} {R : Nat → Value} (hv : RwsAt w vr rows R) (fid : FuncId) (c1 : Value) (P : List Int → Bool) (hfid : ∀ (xs : Array Value) (W : World), (callFunc fid xs).run Tryz.prog W = .ok (.enter fid xs) W)
    (hc : ∀ (W : World) (i : Nat), Ext w W → i < rows.length → Calls Tryz.prog fid #[R i, c1] W (Rd W (.bool (P (nthL rows i))))) :
    Calls Tryz.prog 111 #[vr, .func (.func fid) #[] #[c1]] w (RdI w fun r => decide (0 ≤ r) = rows.any P) := by
  have hl := hv.run_len (P := Tryz.prog) slRows
  have hlen := hv.len
  have HV := Lib.hid hv; have HC := Lib.hid hc
  clear hv hc
  go_enter Tryz.func111, Tryz.ntmps111
  go_wp2
  go_loopw [5, 8] (fun _ x8 wr => ∃ i : Nat, i ≤ rows.length ∧ x8 = .int .i64 i ∧ Hid (∀ j, j < i → P (nthL rows j) = false) ∧ Hid (∃ m, wr = w.drewN m)) (fun _ x8 _ => rows.length - (intOf x8).toNat)
  case atStart => exact ⟨0, Nat.zero_le _, rfl, Lib.hid (fun j hj => by omega), Lib.hid ⟨0, rfl⟩⟩
  case round =>
    obtain ⟨i, hi, rfl, H, HM⟩ := hrel
    obtain ⟨m, hm⟩ := HM.out
    have HX := Lib.hid (show Ext w wr from by rw [hm]; exact Ext.drewN _ _)
    clear hm
    by_cases hlt : i < rows.length
    · have hix := HV.out.run_index (P := Tryz.prog) slRows i hlt
      have hcell := HX.out.cell (HV.out.cell i hlt)
      have HCI := Lib.hid (HC.out wr i HX.out hlt)
      cases he : P (nthL rows i) with
      | false =>
        have HE := Lib.hid he
        rw [he] at HCI
        clear he
        go_wp2_with fail
        refine HCI.out.mono ?_
        rintro e w' ⟨rfl, m2, rfl⟩
        go_wp2_with fail
        go_roundw
        case rel => exact ⟨i + 1, by omega, by go_num, Lib.hid (fun j hj => by
            rcases Nat.lt_or_eq_of_le (show j ≤ i by omega) with h | rfl
            · exact H.out j h
            · exact HE.out), Lib.hid (by obtain ⟨m, hm⟩ := HM.out; exact ⟨m + m2, by rw [hm]; show World.drewN (World.drewN w m) m2 = _; simp [World.drewN, Nat.add_assoc]⟩)⟩
        case measure => simp [intOf]; omega
      | true =>
        have HA := Lib.hid (show rows.any P = true from List.any_eq_true.2 ⟨nthL rows i, by rw [nthL_eq hlt]; exact List.getElem_mem hlt, he⟩)
        rw [he] at HCI
        clear he
        go_wp2_with fail
        refine HCI.out.mono ?_
        rintro e w' ⟨rfl, m2, rfl⟩
        go_wp2_with fail
        go_ret
        exact ⟨i, by rw [HA.out]; simp, rfl, by obtain ⟨m, hm⟩ := HM.out; exact ⟨m + m2, by rw [hm]; show World.drewN (World.drewN w m) m2 = _; simp [World.drewN, Nat.add_assoc]⟩⟩
    · obtain rfl : i = rows.length := by omega
      have HA := Lib.hid (show rows.any P = false by
        rw [List.any_eq_false]
        intro l hl
        obtain ⟨j, hj, rfl⟩ := List.getElem_of_mem hl
        have := H.out j hj
        rw [nthL_eq hj] at this; simp [this])
      go_wp2_with fail
      go_ret
      exact ⟨-1, by rw [HA.out]; rfl, rfl, HM.out⟩
set_option maxRecDepth 100000 in
theorem contains1_any {w : World} {vr : Value} {rows : List (List Int)} {R : Nat → Value} (hv : RwsAt w vr rows R) (fid : FuncId) (c1 : Value) (P : List Int → Bool) (hfid : ∀ (xs : Array Value) (W : World), (callFunc fid xs).run Tryz.prog W = .ok (.enter fid xs) W)
    (hc : ∀ (W : World) (i : Nat), Ext w W → i < rows.length → Calls Tryz.prog fid #[R i, c1] W (Rd W (.bool (P (nthL rows i))))) :
    Calls Tryz.prog 60 #[vr, .func (.func fid) #[] #[c1]] w (Rd w (.bool (rows.any P))) := by
  have CI := Lib.hid (containsI1_any hv fid c1 P hfid hc)
  clear hv hc
  go_enter Tryz.func60, Tryz.ntmps60
  go_wp2_with fail
  refine CI.out.mono ?_
  rintro e w' ⟨r, hr, rfl, m, rfl⟩
  have HR := Lib.hid hr
  clear hr
  go_wp2_with fail
  go_ret
  exact .more _ (ret_bool HR.out)
theorem fol2_enter (xs : Array Value) (W : World) : (callFunc 144 xs).run Tryz.prog W = .ok (.enter 144 xs) W := by kernel_rfl
theorem fol2_any {w : World} {v : Value} {l : List Int} (h : Ints w v l) : Calls Tryz.prog 144 #[v] w (Rd w (.bool (decide (l.length ≠ 4)))) := by
  have hl := h.run_len (P := Tryz.prog) slInts
  have hn := h.len
  clear h
  by_cases h4 : l.length = 4
  · rw [h4] at hl
    have HF := Lib.hid (show decide (l.length ≠ 4) = false from decide_eq_false (by omega))
    clear h4
    go_enter Tryz.func144, Tryz.ntmps144
    go_wp2
    go_ret
    exact .same (by rw [HF.out]; rfl)
  · have HF := Lib.hid (show decide (l.length ≠ 4) = true from decide_eq_true h4)
    have hne : ¬ ((l.length : Int) = 4) := by omega
    clear h4
    go_enter Tryz.func144, Tryz.ntmps144
    go_wp2
    go_ret
    exact .same (by rw [HF.out]; first | rfl | (congr 1; simp; omega) | (simp; omega))
end Go.Proofs.YtfepefbehgbjpaaGreatDoor
end
section
namespace Go.Att
open Go.RowKit
theorem once_once (l : List Int) : onceL (onceL l) = onceL l := asc_unique (onceL_asc _) (onceL_asc _) (fun x => by rw [onceL_mem])
theorem once_asc_le (l : List Int) : (onceL l).Pairwise (· ≤ ·) := (onceL_asc l).le
def shoR (p : Int) (rows : List (List Int)) (pl : List Int) (i : Nat) : List (List Int) := (pl.take i).map fun x => (nthL rows x.toNat).map (fof p)
theorem shoR_length {p : Int} {rows : List (List Int)} {pl : List Int} {i : Nat} (h : i ≤ pl.length) : (shoR p rows pl i).length = i := by unfold shoR; rw [List.length_map, List.length_take]; omega
theorem shoR_snoc {p : Int} {rows : List (List Int)} {pl : List Int} {i : Nat} (h : i < pl.length) {j : Nat} (hj : nth pl i = j) : shoR p rows pl (i + 1) = shoR p rows pl i ++ [(nthL rows j).map (fof p)] := by
  unfold shoR
  rw [List.take_succ_eq_append_getElem h, List.map_append, List.map_singleton, ← nth_eq h, hj, Int.toNat_natCast]
theorem Grid.clp {B : Nat} {w : World} {e : TypeId} {v : Value} {L : List (List Int)} {R : Nat → Value} (h : Grid B w e v L R) : RwsAt w (clpV v L.length) L R := ⟨h.rws.sl.clp, h.row⟩
end Go.Att
namespace Go.Proofs.YtfepefbehgbjpaaGreatDoor
open Go.RowKit Go.Att
set_option maxRecDepth 100000 in
set_option maxHeartbeats 1000000 in
theorem containsJ1_any {w : World} {vr : Value} {rows : List Int} (hv : Ints w vr rows) (fid : FuncId) (c1 : Value) (P : Int → Bool) (hfid : ∀ (xs : Array Value) (W : World), (callFunc fid xs).run Tryz.prog W = .ok (.enter fid xs) W)
    (hc : ∀ (W : World) (i : Nat), Ext w W → i < rows.length → Calls Tryz.prog fid #[.int .i64 (nth rows i), c1] W (Rd W (.bool (P (nth rows i))))) :
    Calls Tryz.prog 128 #[vr, .func (.func fid) #[] #[c1]] w (RdI w fun r => decide (0 ≤ r) = rows.any P) := by
  have hl := hv.run_len (P := Tryz.prog) slInts
  have hlen := hv.len
  have HV := Lib.hid hv; have HC := Lib.hid hc
  clear hv hc
  go_enter Tryz.func128, Tryz.ntmps128
  go_wp2
  go_loopw [5, 8] (fun _ x8 wr => ∃ i : Nat, i ≤ rows.length ∧ x8 = .int .i64 i ∧ Hid (∀ j, j < i → P (nth rows j) = false) ∧ Hid (∃ m, wr = w.drewN m)) (fun _ x8 _ => rows.length - (intOf x8).toNat)
  case atStart => exact ⟨0, Nat.zero_le _, rfl, Lib.hid (fun j hj => by omega), Lib.hid ⟨0, rfl⟩⟩
  case round =>
    obtain ⟨i, hi, rfl, H, HM⟩ := hrel
    obtain ⟨m, hm⟩ := HM.out
    have HX := Lib.hid (show Ext w wr from by rw [hm]; exact Ext.drewN _ _)
    clear hm
    by_cases hlt : i < rows.length
    · have hix := HV.out.run_index (P := Tryz.prog) slInts i hlt
      have hcell := HX.out.cell (HV.out.cell i hlt)
      have HCI := Lib.hid (HC.out wr i HX.out hlt)
      cases he : P (nth rows i) with
      | false =>
        have HE := Lib.hid he
        rw [he] at HCI
        clear he
        go_wp2_with fail
        refine HCI.out.mono ?_
        rintro e w' ⟨rfl, m2, rfl⟩
        go_wp2_with fail
        go_roundw
        case rel => exact ⟨i + 1, by omega, by go_num, Lib.hid (fun j hj => by
            rcases Nat.lt_or_eq_of_le (show j ≤ i by omega) with h | rfl
            · exact H.out j h
            · exact HE.out), Lib.hid (by obtain ⟨m, hm⟩ := HM.out; exact ⟨m + m2, by rw [hm]; show World.drewN (World.drewN w m) m2 = _; simp [World.drewN, Nat.add_assoc]⟩)⟩
        case measure => simp [intOf]; omega
      | true =>
        have HA := Lib.hid (show rows.any P = true from List.any_eq_true.2 ⟨nth rows i, by rw [nth_eq hlt]; exact List.getElem_mem hlt, he⟩)
        rw [he] at HCI
        clear he
        go_wp2_with fail
        refine HCI.out.mono ?_
        rintro e w' ⟨rfl, m2, rfl⟩
        go_wp2_with fail
        go_ret
        exact ⟨i, by rw [HA.out]; simp, rfl, by obtain ⟨m, hm⟩ := HM.out; exact ⟨m + m2, by rw [hm]; show World.drewN (World.drewN w m) m2 = _; simp [World.drewN, Nat.add_assoc]⟩⟩
    · obtain rfl : i = rows.length := by omega
      have HA := Lib.hid (show rows.any P = false by
        rw [List.any_eq_false]
        intro l hl
        obtain ⟨j, hj, rfl⟩ := List.getElem_of_mem hl
        have := H.out j hj
        rw [nth_eq hj] at this; simp [this])
      go_wp2_with fail
      go_ret
      exact ⟨-1, by rw [HA.out]; rfl, rfl, HM.out⟩
set_option maxRecDepth 100000 in
theorem containsN1_any {w : World} {vr : Value} {rows : List Int} (hv : Ints w vr rows) (fid : FuncId) (c1 : Value) (P : Int → Bool) (hfid : ∀ (xs : Array Value) (W : World), (callFunc fid xs).run Tryz.prog W = .ok (.enter fid xs) W)
    (hc : ∀ (W : World) (i : Nat), Ext w W → i < rows.length → Calls Tryz.prog fid #[.int .i64 (nth rows i), c1] W (Rd W (.bool (P (nth rows i))))) :
    Calls Tryz.prog 83 #[vr, .func (.func fid) #[] #[c1]] w (Rd w (.bool (rows.any P))) := by
  have CI := Lib.hid (containsJ1_any hv fid c1 P hfid hc)
  clear hv hc
  go_enter Tryz.func83, Tryz.ntmps83
  go_wp2_with fail
  refine CI.out.mono ?_
  rintro e w' ⟨r, hr, rfl, m, rfl⟩
  have HR := Lib.hid hr
  clear hr
  go_wp2_with fail
  go_ret
  exact .more _ (ret_bool HR.out)
theorem opn1_enter (xs : Array Value) (W : World) : (callFunc 84 xs).run Tryz.prog W = .ok (.enter 84 xs) W := by kernel_rfl
theorem opn1_any {w : World} {b : Nat} {vr : Value} {rows : List (List Int)} {R : Nat → Value} (hr : RwsAt w vr rows R) (h : w.cell? ⟨b, 0, none⟩ = some vr) (x : Int) (h0 : 0 ≤ x) (h1 : x < rows.length) :
    Calls Tryz.prog 84 #[.int .i64 x, .pointer (some ⟨b, 0, none⟩)] w (Rd w (.bool false)) := by
  have hl := hr.run_len (P := Tryz.prog) slRows
  have h2 : ¬ (x < 0) := by omega
  have h3 : ¬ ((rows.length : Int) ≤ x) := by omega
  clear hr
  go_enter Tryz.func84, Tryz.ntmps84
  go_wp2
  go_ret
  exact Rd.more 0 rfl
theorem clipRW_any {w : World} {v : Value} {n : Nat} {cs : List Value} (h : Sl w 1 v n cs) : Calls Tryz.prog 91 #[v] w fun e w' => e = .returned (clpV v n) ∧ w = w' := by
  have hll := Sl.run_len h (P := Tryz.prog) slRows
  have hcl := Sl.run_clp (P := Tryz.prog) h slRows
  go_enter Tryz.func91, Tryz.ntmps91
  go_wp2
  go_ret
  exact ⟨rfl, rfl⟩
end Go.Proofs.YtfepefbehgbjpaaGreatDoor
end
