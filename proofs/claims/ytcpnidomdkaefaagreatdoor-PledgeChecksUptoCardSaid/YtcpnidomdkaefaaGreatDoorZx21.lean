/- Whether one of rows answers a closure; the closures of lengths: contracts. Whether an opening shows just these places, in rows of a width: attestref5.Shows: contract. How a pledge that came in reads: three lists, and an opening of a list and two lists of lists; how long they are. What a pledge says, in plain words: what both sides' Check come to. No program in sight. What a pledge says, the document's side: attestref12.Check: contract. -/
import Derived.Test.YtcpnidomdkaefaaGreatDoorNk
import Derived.Test.YtcpnidomdkaefaaGreatDoorNi
import Derived.Test.YtcpnidomdkaefaaGreatDoorZx16
import Derived.Test.YtcpnidomdkaefaaGreatDoorNm
import Derived.Test.YtcpnidomdkaefaaGreatDoorJc
section
namespace Go.Proofs.YtcpnidomdkaefaaGreatDoor
open Go.RowKit Go.Att
set_option maxRecDepth 100000 in
set_option maxHeartbeats 1000000 in
theorem containsI0_any {w : World} {vr : Value} {rows : List (List Int)} {R : Nat → Value} (hv : RwsAt w vr rows R) (fid : FuncId) (P : List Int → Bool) (hfid : ∀ (xs : Array Value) (W : World), (callFunc fid xs).run Tryz.prog W = .ok (.enter fid xs) W)
    (hc : ∀ (W : World) (i : Nat), Ext w W → i < rows.length → Calls Tryz.prog fid #[R i] W (Rd W (.bool (P (nthL rows i))))) :
    Calls Tryz.prog 93 #[vr, .func (.func fid) #[] #[]] w (RdI w fun r => decide (0 ≤ r) = rows.any P) := by
  have hl := hv.run_len (P := Tryz.prog) slRows
  have hlen := hv.len
  have HV := Lib.hid hv; have HC := Lib.hid hc
  clear hv hc
  go_enter Tryz.func93, Tryz.ntmps93
  go_wp2
  go_loopw [5, 8] (fun _ x8 wr => ∃ i : Nat, i ≤ rows.length ∧ x8 = .int .i64 i ∧ Hid (∀ j, j < i → P (nthL rows j) = false) ∧ Hid (∃ m, wr = w.drewN m)) (fun _ x8 _ => rows.length - (intOf x8).toNat)
  case atStart => exact ⟨0, Nat.zero_le _, rfl, Lib.hid (fun j hj => by omega), Lib.hid ⟨0, rfl⟩⟩
  case round =>
    obtain ⟨i, hi, rfl, H, HM⟩ := hrel
    obtain ⟨m, hm⟩ := HM.out
    have HX := Lib.hid (show Ext w wr from by rw [hm]; exact Ext.drewN _ _)
    clear hm
    by_cases hlt : i < rows.length
    · have hix := HV.out.run_index (P := Tryz.prog) slRows i hlt
      have hcell := HX.out.cell (HV.out.cell i hlt)
      have HCI := Lib.hid (HC.out wr i HX.out hlt)
      cases he : P (nthL rows i) with
      | false =>
        have HE := Lib.hid he
        rw [he] at HCI
        clear he
        go_wp2_with fail
        refine HCI.out.mono ?_
        rintro e w' ⟨rfl, m2, rfl⟩
        go_wp2_with fail
        go_roundw
        case rel => exact ⟨i + 1, by omega, by go_num, Lib.hid (fun j hj => by
            rcases Nat.lt_or_eq_of_le (show j ≤ i by omega) with h | rfl
            · exact H.out j h
            · exact HE.out), Lib.hid (by obtain ⟨m, hm⟩ := HM.out; exact ⟨m + m2, by rw [hm]; show World.drewN (World.drewN w m) m2 = _; simp [World.drewN, Nat.add_assoc]⟩)⟩
        case measure => simp [intOf]; omega
      | true =>
        have HA := Lib.hid (show rows.any P = true from List.any_eq_true.2 ⟨nthL rows i, by rw [nthL_eq hlt]; exact List.getElem_mem hlt, he⟩)
        rw [he] at HCI
        clear he
        go_wp2_with fail
        refine HCI.out.mono ?_
        rintro e w' ⟨rfl, m2, rfl⟩
        go_wp2_with fail
        go_ret
        exact ⟨i, by rw [HA.out]; simp, rfl, by obtain ⟨m, hm⟩ := HM.out; exact ⟨m + m2, by rw [hm]; show World.drewN (World.drewN w m) m2 = _; simp [World.drewN, Nat.add_assoc]⟩⟩
    · obtain rfl : i = rows.length := by omega
      have HA := Lib.hid (show rows.any P = false by
        rw [List.any_eq_false]
        intro l hl
        obtain ⟨j, hj, rfl⟩ := List.getElem_of_mem hl
        have := H.out j hj
        rw [nthL_eq hj] at this; simp [this])
      go_wp2_with fail
      go_ret
      exact ⟨-1, by rw [HA.out]; rfl, rfl, HM.out⟩
set_option maxRecDepth 100000 in
theorem contains0_any {w : World} {vr : Value} {rows : List (List Int)} {R : Nat → Value} (hv : RwsAt w vr rows R) (fid : FuncId) (P : List Int → Bool) (hfid : ∀ (xs : Array Value) (W : World), (callFunc fid xs).run Tryz.prog W = .ok (.enter fid xs) W)
    (hc : ∀ (W : World) (i : Nat), Ext w W → i < rows.length → Calls Tryz.prog fid #[R i] W (Rd W (.bool (P (nthL rows i))))) :
    Calls Tryz.prog 39 #[vr, .func (.func fid) #[] #[]] w (Rd w (.bool (rows.any P))) := by
  have CI := Lib.hid (containsI0_any hv fid P hfid hc)
  clear hv hc
  go_enter Tryz.func39, Tryz.ntmps39
  go_wp2_with fail
  refine CI.out.mono ?_
  rintro e w' ⟨r, hr, rfl, m, rfl⟩
  have HR := Lib.hid hr
  clear hr
  go_wp2_with fail
  go_ret
  exact .more _ (ret_bool HR.out)
set_option maxRecDepth 100000 in
set_option maxHeartbeats 1000000 in
theorem containsI1_any {w : World} {vr : Value} {rows : List (List Int)} {R : Nat → Value} (hv : RwsAt w vr rows R) (fid : FuncId) (c1 : Value) (P : List Int → Bool) (hfid : ∀ (xs : Array Value) (W : World), (callFunc fid xs).run Tryz.prog W = .ok (.enter fid xs) W)
    (hc : ∀ (W : World) (i : Nat), Ext w W → i < rows.length → Calls Tryz.prog fid #[R i, c1] W (Rd W (.bool (P (nthL rows i))))) :
    Calls Tryz.prog 93 #[vr, .func (.func fid) #[] #[c1]] w (RdI w fun r => decide (0 ≤ r) = rows.any P) := by
  have hl := hv.run_len (P := Tryz.prog) slRows
  have hlen := hv.len
  have HV := Lib.hid hv; have HC := Lib.hid hc
  clear hv hc
  go_enter Tryz.func93, Tryz.ntmps93
  go_wp2
  go_loopw [5, 8] (fun _ x8 wr => ∃ i : Nat, i ≤ rows.length ∧ x8 = .int .i64 i ∧ Hid (∀ j, j < i → P (nthL rows j) = false) ∧ Hid (∃ m, wr = w.drewN m)) (fun _ x8 _ => rows.length - (intOf x8).toNat)
  case atStart => exact ⟨0, Nat.zero_le _, rfl, Lib.hid (fun j hj => by omega), Lib.hid ⟨0, rfl⟩⟩
  case round =>
    obtain ⟨i, hi, rfl, H, HM⟩ := hrel
    obtain ⟨m, hm⟩ := HM.out
    have HX := Lib.hid (show Ext w wr from by rw [hm]; exact Ext.drewN _ _)
    clear hm
    by_cases hlt : i < rows.length
    · have hix := HV.out.run_index (P := Tryz.prog) slRows i hlt
      have hcell := HX.out.cell (HV.out.cell i hlt)
      have HCI := Lib.hid (HC.out wr i HX.out hlt)
      cases he : P (nthL rows i) with
      | false =>
        have HE := Lib.hid he
        rw [he] at HCI
        clear he
        go_wp2_with fail
        refine HCI.out.mono ?_
        rintro e w' ⟨rfl, m2, rfl⟩
        go_wp2_with fail
        go_roundw
        case rel => exact ⟨i + 1, by omega, by go_num, Lib.hid (fun j hj => by
            rcases Nat.lt_or_eq_of_le (show j ≤ i by omega) with h | rfl
            · exact H.out j h
            · exact HE.out), Lib.hid (by obtain ⟨m, hm⟩ := HM.out; exact ⟨m + m2, by rw [hm]; show World.drewN (World.drewN w m) m2 = _; simp [World.drewN, Nat.add_assoc]⟩)⟩
        case measure => simp [intOf]; omega
      | true =>
        have HA := Lib.hid (show rows.any P = true from List.any_eq_true.2 ⟨nthL rows i, by rw [nthL_eq hlt]; exact List.getElem_mem hlt, he⟩)
        rw [he] at HCI
        clear he
        go_wp2_with fail
        refine HCI.out.mono ?_
        rintro e w' ⟨rfl, m2, rfl⟩
        go_wp2_with fail
        go_ret
        exact ⟨i, by rw [HA.out]; simp, rfl, by obtain ⟨m, hm⟩ := HM.out; exact ⟨m + m2, by rw [hm]; show World.drewN (World.drewN w m) m2 = _; simp [World.drewN, Nat.add_assoc]⟩⟩
    · obtain rfl : i = rows.length := by omega
      have HA := Lib.hid (show rows.any P = false by
        rw [List.any_eq_false]
        intro l hl
        obtain ⟨j, hj, rfl⟩ := List.getElem_of_mem hl
        have := H.out j hj
        rw [nthL_eq hj] at this; simp [this])
      go_wp2_with fail
      go_ret
      exact ⟨-1, by rw [HA.out]; rfl, rfl, HM.out⟩
set_option maxRecDepth 100000 in
theorem contains1_any {w : World} {vr : Value} {rows : List (List Int)} {R : Nat → Value} (hv : RwsAt w vr rows R) (fid : FuncId) (c1 : Value) (P : List Int → Bool) (hfid : ∀ (xs : Array Value) (W : World), (callFunc fid xs).run Tryz.prog W = .ok (.enter fid xs) W)
    (hc : ∀ (W : World) (i : Nat), Ext w W → i < rows.length → Calls Tryz.prog fid #[R i, c1] W (Rd W (.bool (P (nthL rows i))))) :
    Calls Tryz.prog 39 #[vr, .func (.func fid) #[] #[c1]] w (Rd w (.bool (rows.any P))) := by
  have CI := Lib.hid (containsI1_any hv fid c1 P hfid hc)
  clear hv hc
  go_enter Tryz.func39, Tryz.ntmps39
  go_wp2_with fail
  refine CI.out.mono ?_
  rintro e w' ⟨r, hr, rfl, m, rfl⟩
  have HR := Lib.hid hr
  clear hr
  go_wp2_with fail
  go_ret
  exact .more _ (ret_bool HR.out)
theorem fol2_enter (xs : Array Value) (W : World) : (callFunc 114 xs).run Tryz.prog W = .ok (.enter 114 xs) W := by kernel_rfl
/-- Is a list no digest? -/
theorem fol2_any {w : World} {v : Value} {l : List Int} (h : Ints w v l) : Calls Tryz.prog 114 #[v] w (Rd w (.bool (decide (l.length ≠ 4)))) := by
  have hl := h.run_len (P := Tryz.prog) slInts
  have hn := h.len
  clear h
  by_cases h4 : l.length = 4
  · rw [h4] at hl
    have HF := Lib.hid (show decide (l.length ≠ 4) = false from decide_eq_false (by omega))
    clear h4
    go_enter Tryz.func114, Tryz.ntmps114
    go_wp2
    go_ret
    exact .same (by rw [HF.out]; rfl)
  · have HF := Lib.hid (show decide (l.length ≠ 4) = true from decide_eq_true h4)
    have hne : ¬ ((l.length : Int) = 4) := by omega
    clear h4
    go_enter Tryz.func114, Tryz.ntmps114
    go_wp2
    go_ret
    exact .same (by rw [HF.out]; first | rfl | (congr 1; simp; omega) | (simp; omega))
end Go.Proofs.YtcpnidomdkaefaaGreatDoor
end
section
namespace Go.Att
open Go.RowKit
/-- Does an opening show just these places, in rows of a width? -/
def showsB (p : Int) (k : Nat) (root : List Int) (n : Nat) (pl : List Int) (rows nodes : List (List Int)) (L : List Int) (wd : Nat) : Bool := (pl == L) && (rows.all fun l => decide (l.length = wd)) && treeB p k root n pl rows nodes
theorem beq_of_nth {a b : List Int} (hl : a.length = b.length) (h : ∀ i, i < a.length → nth a i = nth b i) : (a == b) = true := by
  rw [beq_iff_eq]
  apply List.ext_getElem hl
  intro i h1 h2
  have := h i h1
  rw [nth_eq h1, nth_eq h2] at this; exact this
theorem beq_not_nth {a b : List Int} {i : Nat} (_hi : i < a.length) (h : nth a i ≠ nth b i) : (a == b) = false := by
  rw [beq_eq_false_iff_ne]
  rintro rfl
  exact h rfl
end Go.Att
namespace Go.Proofs.YtcpnidomdkaefaaGreatDoor
open Go.RowKit Go.Att
set_option maxRecDepth 100000 in
set_option maxHeartbeats 8000000 in
theorem rshows_any {w : World} {p : Int} {k : Nat} {tv pv rv nv vp : Value} {top pl L : List Int} {rows nodes : List (List Int)} {RR NR : Nat → Value} (h23 : 23 ≤ p) (hp2 : p ≤ 2147483647) (hk : IsPw p k) (ht : Ints w tv top) (hp : Ints w pv pl) (hr : RwsAt w rv rows RR) (hn : RwsAt w nv nodes NR) (hL : Ints w vp L) (hrw : ∀ i, i < rows.length → (nthL rows i).length ≤ 1048575000) (n : Nat) (hn1 : 1 ≤ n) (hn2 : n ≤ 65536) (wd : Nat) (_hwd : wd ≤ 4096) :
    Calls Tryz.prog 52 #[.int .i64 p, tv, .int .i64 n, .agg #[pv, rv, nv], vp, .int .i64 wd] w fun e w' => e = .returned (.bool (showsB p k top n pl rows nodes L wd)) ∧ Ext w w' := by
  have hlp := hp.run_len (P := Tryz.prog) slInts
  have hlL := hL.run_len (P := Tryz.prog) slInts
  have hlr := hr.run_len (P := Tryz.prog) slRows
  have hpl := hp.len
  have hrl := hr.len
  have hLl := hL.len
  have HK := Lib.hid hk; have HT := Lib.hid ht; have HP := Lib.hid hp; have HR := Lib.hid hr; have HN := Lib.hid hn; have HL := Lib.hid hL; have HRW := Lib.hid hrw
  have HTB := Lib.hid (show showsB p k top n pl rows nodes L wd = ((pl == L) && (rows.all fun l => decide (l.length = wd)) && treeB p k top n pl rows nodes) from rfl)
  obtain ⟨r, hrr⟩ : ∃ r, showsB p k top n pl rows nodes L wd = r := ⟨_, rfl⟩
  rw [hrr] at HTB ⊢
  clear hk ht hp hr hn hL hrw hrr
  obtain ⟨pa, pc, hpe⟩ := HP.out.shape
  obtain ⟨pn, hpn⟩ : ∃ pn, pl.length = pn := ⟨_, rfl⟩
  rw [hpn] at hpe
  subst hpe
  clear hpn
  obtain ⟨ra, rc, hre⟩ := HR.out.shape
  obtain ⟨rn, hrn⟩ : ∃ rn, rows.length = rn := ⟨_, rfl⟩
  rw [hrn] at hre
  subst hre
  clear hrn
  obtain ⟨na, nc, hne⟩ := HN.out.shape
  obtain ⟨nn, hnn⟩ : ∃ nn, nodes.length = nn := ⟨_, rfl⟩
  rw [hnn] at hne
  subst hne
  clear hnn
  have HX0 := Lib.hid (Ext.alloc w (Obj.cells #[.slice pa pn pc, .slice ra rn rc, .slice na nn nc] 25))
  have HK0 := Lib.hid (BlkOf.new w [.slice pa pn pc, .slice ra rn rc, .slice na nn nc] 25)
  by_cases h1 : pl.length = L.length
  case neg =>
    have HF := Lib.hid (show r = false from by rw [HTB.out, show (pl == L) = false from by rw [beq_eq_false_iff_ne]; rintro rfl; exact h1 rfl]; rfl)
    have hnf : ((pl.length : Int) != (L.length : Int)) = true := by rw [bne_iff_ne]; omega
    have hng : ¬ ((pl.length : Int) = (L.length : Int)) := by omega
    clear h1
    go_enter Tryz.func52, Tryz.ntmps52
    go_upto_region 1 with (fail)
    generalize w.alloc (Obj.cells #[.slice pa pn pc, .slice ra rn rc, .slice na nn nc] 25) = W0 at *
    have k0 : W0.cell? ⟨w.heap.size, 0, none⟩ = some (.slice pa pn pc) := HK0.out.cell 0
    go_wp2_with fail
    go_ret
    exact ⟨by rw [HF.out]; rfl, HX0.out⟩
  have HLL := Lib.hid h1
  rw [h1] at hlp
  clear h1
  go_enter Tryz.func52, Tryz.ntmps52
  go_upto_region 1 with (fail)
  generalize w.alloc (Obj.cells #[.slice pa pn pc, .slice ra rn rc, .slice na nn nc] 25) = W0 at *
  generalize w.heap.size = kb at *
  have k0 : W0.cell? ⟨kb, 0, none⟩ = some (.slice pa pn pc) := HK0.out.cell 0
  go_wp2_with fail
  go_loopw [13] (fun x13 wr => ∃ i : Nat, i ≤ L.length ∧ x13 = .int .i64 i ∧ Hid (∀ j, j < i → nth pl j = nth L j) ∧ Hid (Ext W0 wr)) (fun x13 _ => L.length - (intOf x13).toNat)
  case atStart => exact ⟨0, Nat.zero_le _, rfl, Lib.hid (fun j hj => by omega), Lib.hid (Ext.refl _)⟩
  case round =>
    clear k0
    obtain ⟨i, hi, rfl, HI, HX⟩ := hrel
    have k0 : wr.cell? ⟨kb, 0, none⟩ = some (.slice pa pn pc) := (HK0.out.ext HX.out).cell 0
    by_cases hil : i < L.length
    · have hip := HP.out.run_index (P := Tryz.prog) slInts i (by rw [HLL.out]; exact hil)
      have hcp := (HP.out.ext (HX0.out.trans HX.out)).cell i (by rw [HLL.out]; exact hil)
      have hiq := HL.out.run_index (P := Tryz.prog) slInts i hil
      have hcq := (HL.out.ext (HX0.out.trans HX.out)).cell i hil
      have HIL := Lib.hid hil
      obtain ⟨x, hx⟩ : ∃ x, nth pl i = x := ⟨_, rfl⟩
      obtain ⟨y, hy⟩ : ∃ y, nth L i = y := ⟨_, rfl⟩
      rw [hx] at hcp
      rw [hy] at hcq
      have HXE := Lib.hid hx; have HYE := Lib.hid hy
      obtain ⟨ia, hia⟩ : ∃ q, elt (.slice pa pn pc) i 1 = q := ⟨_, rfl⟩
      obtain ⟨ib, hib⟩ : ∃ q, elt vp i 1 = q := ⟨_, rfl⟩
      rw [hia] at hip hcp
      rw [hib] at hiq hcq
      clear hx hy hia hib
      by_cases hxy : x = y
      · subst hxy
        go_wp2_with fail
        go_quiet (fail)
        go_wp2_with fail
        go_roundw
        case rel => exact ⟨i + 1, by have := HIL.out; omega, by go_num, Lib.hid (fun j hj => by
          rcases Nat.lt_or_eq_of_le (show j ≤ i by omega) with h | rfl
          · exact HI.out j h
          · rw [HXE.out, HYE.out]), Lib.hid (HX.out.trans (Ext.drewN _ _))⟩
        case measure => have := HIL.out; simp [intOf]; omega
      · have HF := Lib.hid (show r = false from by rw [HTB.out, beq_not_nth (by rw [HLL.out]; exact HIL.out) (by rw [HXE.out, HYE.out]; exact hxy)]; rfl)
        go_wp2_with fail
        go_quiet (fail)
        go_wp2_with fail
        go_ret
        exact ⟨by rw [HF.out]; rfl, HX0.out.trans (HX.out.trans (Ext.drewN _ _))⟩
    · obtain rfl : i = L.length := by omega
      have HB := Lib.hid (show (pl == L) = true from beq_of_nth HLL.out (fun i hi => HI.out i (by rw [← HLL.out]; exact hi)))
      have k1 : wr.cell? ⟨kb, 1, none⟩ = some (.slice ra rn rc) := (HK0.out.ext HX.out).cell 1
      clear HI
      go_wp2_with fail
      generalize wr = W1 at *
      go_loopw [14] (fun x14 wq => ∃ i : Nat, i ≤ rows.length ∧ x14 = .int .i64 i ∧ Hid (∀ j, j < i → (nthL rows j).length = wd) ∧ Hid (Ext W1 wq)) (fun x14 _ => rows.length - (intOf x14).toNat)
      case atStart => exact ⟨0, Nat.zero_le _, rfl, Lib.hid (fun j hj => by omega), Lib.hid (Ext.refl _)⟩
      case round =>
        clear k0 k1
        obtain ⟨i, hi, rfl, HI, HXQ⟩ := hrel
        have HXW := Lib.hid (HX0.out.trans (HX.out.trans HXQ.out))
        have HKW := Lib.hid ((HK0.out.ext HX.out).ext HXQ.out)
        have k1 : wr.cell? ⟨kb, 1, none⟩ = some (.slice ra rn rc) := HKW.out.cell 1
        by_cases hil : i < rows.length
        · have hir := HR.out.run_index (P := Tryz.prog) slRows i hil
          have hcr := (HR.out.ext HXW.out).cell i hil
          have hlw := (HR.out.row i hil).run_len (P := Tryz.prog) slInts
          have hlb := (HR.out.row i hil).len
          have HIL := Lib.hid hil
          by_cases hw : (nthL rows i).length = wd
          · rw [hw] at hlw
            have HW := Lib.hid hw
            clear hw
            go_wp2_with fail
            try go_quiet (fail)
            try go_wp2_with fail
            go_roundw
            case rel => exact ⟨i + 1, by have := HIL.out; omega, by go_num, Lib.hid (fun j hj => by
              rcases Nat.lt_or_eq_of_le (show j ≤ i by omega) with h | rfl
              · exact HI.out j h
              · exact HW.out), by first | exact HXQ | exact Lib.hid (HXQ.out.trans (Ext.drewN _ _))⟩
            case measure => have := HIL.out; simp [intOf]; omega
          · have HF := Lib.hid (show r = false from by
              rw [HTB.out, HB.out, show (rows.all fun l => decide (l.length = wd)) = false from List.all_eq_false.2 ⟨nthL rows i, by rw [nthL_eq HIL.out]; exact List.getElem_mem HIL.out, by simpa using hw⟩]; rfl)
            have hnf : (((nthL rows i).length : Int) != (wd : Int)) = true := by rw [bne_iff_ne]; omega
            have hng : ¬ (((nthL rows i).length : Int) = (wd : Int)) := by omega
            clear hw
            go_wp2_with fail
            try go_quiet (fail)
            try go_wp2_with fail
            go_ret
            first | exact ⟨by rw [HF.out]; rfl, HXW.out⟩ | exact ⟨by rw [HF.out]; rfl, HXW.out.trans (Ext.drewN _ _)⟩
        · obtain rfl : i = rows.length := by omega
          have HRA := Lib.hid (show (rows.all fun l => decide (l.length = wd)) = true from List.all_eq_true.2 fun l hl => by
            obtain ⟨j, hj, rfl⟩ := List.getElem_of_mem hl
            have := HI.out j hj
            rw [nthL_eq hj] at this
            simpa using this)
          have HRE := Lib.hid (show treeB p k top n pl rows nodes = r from by rw [HTB.out, HB.out, HRA.out]; rfl)
          have k0 : wr.cell? ⟨kb, 0, none⟩ = some (.slice pa pn pc) := HKW.out.cell 0
          have k2 : wr.cell? ⟨kb, 2, none⟩ = some (.slice na nn nc) := HKW.out.cell 2
          go_wp2_with (go_at_call 105; refine (rtcheck_any h23 hp2 HK.out (HT.out.ext HXW.out) (HP.out.ext HXW.out) (HR.out.ext HXW.out) (HN.out.ext HXW.out) HRW.out n hn1 hn2).mono ?_; rw [HRE.out]; rintro e w5 ⟨rfl, hx5⟩)
          go_ret
          exact ⟨rfl, HXW.out.trans hx5⟩
end Go.Proofs.YtcpnidomdkaefaaGreatDoor
end
section
namespace Go.Att
open Go.RowKit
/-- A pledge, plain: root, mixed, point, places, rows, nodes. -/
structure Pld where
  root : List Int
  mixed : List Int
  point : List Int
  places : List Int
  rows : List (List Int)
  nodes : List (List Int)
/-- Its six slices read so. -/
structure PldAt (w : World) (a b c d e f : Value) (o : Pld) : Prop where
  root : Ints w a o.root
  mixed : Ints w b o.mixed
  point : Ints w c o.point
  places : Ints w d o.places
  rows : Rws w e o.rows
  nodes : Rws w f o.nodes
theorem PldAt.ext {w w' : World} {a b c d e f : Value} {o : Pld} (h : PldAt w a b c d e f o) (hx : Ext w w') : PldAt w' a b c d e f o :=
  ⟨h.root.ext hx, h.mixed.ext hx, h.point.ext hx, h.places.ext hx, let ⟨R, hR⟩ := h.rows; ⟨R, hR.ext hx⟩, let ⟨R, hR⟩ := h.nodes; ⟨R, hR.ext hx⟩⟩
/-- No list of it is longer than n. -/
structure PldLe (o : Pld) (n : Nat) : Prop where
  root : o.root.length ≤ n
  mixed : o.mixed.length ≤ n
  point : o.point.length ≤ n
  places : o.places.length ≤ n
  rows : o.rows.length ≤ n
  row : ∀ i, i < o.rows.length → (nthL o.rows i).length ≤ n
  nodes : o.nodes.length ≤ n
  node : ∀ i, i < o.nodes.length → (nthL o.nodes i).length ≤ n
end Go.Att
namespace Go.Proofs.YtcpnidomdkaefaaGreatDoor
open Go.RowKit Go.Att Go.ChangeShapes Go.WideShapes Go.Deep
section
variable {H : Type} {enc : TypeId × Value → H} {P : Program} {w : World} {base : Nat} {spare : Nat → Bool} {held : Bool}
theorem open_Pld {t e q to_ : TypeId} {f0 f1 f2 f3 g0 g1 g2 : Field} {cs : Array Value} {d : DataW H} {p : List MemPlace} (ht : P.underlying t = some (.struct #[f0, f1, f2, f3]))
    (o0 : f0.offset = 0) (o1 : f1.offset = 1) (o2 : f2.offset = 2) (o3 : f3.offset = 3) (c0 : P.cellsOf f0.type = 1) (c1 : P.cellsOf f1.type = 1) (c2 : P.cellsOf f2.type = 1) (c3 : P.cellsOf f3.type = 3)
    (u0 : f0.type = q) (u1 : f1.type = q) (u2 : f2.type = q) (u3 : f3.type = to_)
    (hto : P.underlying to_ = some (.struct #[g0, g1, g2])) (p0 : g0.offset = 0) (p1 : g1.offset = 1) (p2 : g2.offset = 2) (k0 : P.cellsOf g0.type = 1) (k1 : P.cellsOf g1.type = 1) (k2 : P.cellsOf g2.type = 1)
    (v0 : g0.type = q) (v1 : g1.type = e) (v2 : g2.type = e) {ti : TypeId} (he : P.underlying e = some (.slice q)) (hq : P.underlying q = some (.slice ti)) (hi : P.underlying ti = some (.int .i64)) (cq : P.cellsOf q = 1) (ci : P.cellsOf ti = 1)
    (hs : cs.size = 6) (hv : (Value.agg cs).cells.toList = cs.toList) (h : DataW.Trod enc P w base spare held t (.agg cs) d p) :
    ∃ (a b c x y z : Value) (o : Pld), cs = #[a, b, c, x, y, z] ∧ PldAt w a b c x y z o ∧ PldLe o (Rows.uptoBulk d) := by
  obtain ⟨fuel, hf⟩ := h
  rw [hv] at hf
  obtain ⟨xs, k, hk, hxy, _, hxl, hff⟩ := DataW.trod_struct ht hf
  obtain ⟨a, b, c, x, y, z, rfl⟩ : ∃ a b c x y z, cs = #[a, b, c, x, y, z] := by
    rcases cs with ⟨l⟩
    match l, hs with
    | [a, b, c, x, y, z], _ => exact ⟨a, b, c, x, y, z, rfl⟩
  match xs, hxl with
  | [y0, y1, y2, y3], _ =>
    have e0 := hff 0 f0 rfl
    have e1 := hff 1 f1 rfl
    have e2 := hff 2 f2 rfl
    have e3 := hff 3 f3 rfl
    simp [o0, o1, o2, o3, c0, c1, c2, c3] at e0 e1 e2 e3
    rw [u0] at e0
    rw [u1] at e1
    rw [u2] at e2
    rw [u3] at e3
    obtain ⟨l0, i0, n0⟩ := open_IntsF hq hi ci e0
    obtain ⟨l1, i1, n1⟩ := open_IntsF hq hi ci e1
    obtain ⟨l2, i2, n2⟩ := open_IntsF hq hi ci e2
    obtain ⟨xs', k', hk', hxy', _, hxl', hff'⟩ := DataW.trod_struct hto e3
    match xs', hxl' with
    | [z0, z1, z2], _ =>
      have d0 := hff' 0 g0 rfl
      have d1 := hff' 1 g1 rfl
      have d2 := hff' 2 g2 rfl
      simp [p0, p1, p2, k0, k1, k2] at d0 d1 d2
      rw [v0] at d0
      rw [v1] at d1
      rw [v2] at d2
      obtain ⟨l3, i3, n3⟩ := open_IntsF hq hi ci d0
      obtain ⟨l4, i4, n4⟩ := open_RwsF he hq hi cq ci d1
      obtain ⟨l5, i5, n5⟩ := open_RwsF he hq hi cq ci d2
      refine ⟨a, b, c, x, y, z, ⟨l0, l1, l2, l3, l4, l5⟩, rfl, ⟨i0, i1, i2, i3, i4, i5⟩, ?_⟩
      simp only [Prod.mk.injEq] at hxy
      obtain ⟨rfl, -⟩ := hxy
      have hxo := congrArg Prod.fst hxy'
      have q0 := bulks.row_le (show RowD l0 y0.1 from n0)
      have q1 := bulks.row_le (show RowD l1 y1.1 from n1)
      have q2 := bulks.row_le (show RowD l2 y2.1 from n2)
      have q3 := bulks.row_le (show RowD l3 z0.1 from n3)
      have q4 := bulks.rows_le n4
      have q5 := bulks.rows_le n5
      have hb := congrArg Rows.uptoBulk hxo
      simp only [Rows.uptoBulk, List.map_cons, List.map_nil, Rows.uptoBulkAll] at hb ⊢
      exact ⟨by simp only; omega, by simp only; omega, by simp only; omega, by simp only; omega, by simp only; omega, fun i hi => by have := bulks.rows_row_le n4 hi; simp only; omega, by simp only; omega, fun i hi => by have := bulks.rows_row_le n5 hi; simp only; omega⟩
end
end Go.Proofs.YtcpnidomdkaefaaGreatDoor
end
section
namespace Go.Att
open Go.RowKit
/-- The chain behind root and point; the number drawn then; the chain behind all; the places that are looked at. -/
def plD2 (p : Int) (k : Nat) (D : List Int) (o : Pld) (at_ : List Int) : List Int := stepP p k 3 (stepP p k 3 D o.root) at_
def plD3 (p : Int) (k : Nat) (D : List Int) (o : Pld) (at_ : List Int) : List Int := stepP p k 4 (plD2 p k D o at_) []
def plR (p : Int) (k : Nat) (D : List Int) (o : Pld) (at_ : List Int) : Int := nth (plD3 p k D o at_) 0
def plD5 (p : Int) (k : Nat) (D : List Int) (o : Pld) (at_ : List Int) : List Int := stepP p k 3 (stepP p k 3 (plD3 p k D o at_) o.mixed) o.point
def plL (p : Int) (k : Nat) (D : List Int) (o : Pld) (at_ : List Int) (n : Int) (asked : Nat) : List Int := onceL (plcL p k (plD5 p k D o at_) n asked)
/-- Is one place as the two lists say? -/
def plOk (p sh rt r : Int) (a : Nat) (at_ : List Int) (o : Pld) (L : List Int) (i : Nat) : Bool :=
  (dtU p (fun j => fpow p r j) (nthL o.rows i) (2 ^ a) == ev o.mixed (ptAt p sh rt (nth L i).toNat) % p) &&
  (dtU p (fun j => wgt (at_.take a) j % p) (nthL o.rows i) (2 ^ a) == ev o.point (ptAt p sh rt (nth L i).toNat) % p)
def plAll (p sh rt r : Int) (a : Nat) (at_ : List Int) (o : Pld) (L : List Int) : Bool := (List.range L.length).all (plOk p sh rt r a at_ o L)
/-- What the table is at the point. -/
def plN (p : Int) (a c : Nat) (at_ : List Int) (o : Pld) : Int := dtU p (nth o.point) (unitsL p (at_.drop a) (2 ^ c)) (2 ^ c)
def plShow (p : Int) (k : Nat) (n : Nat) (a : Nat) (o : Pld) (L : List Int) : Bool := showsB p k o.root n o.places o.rows o.nodes L (2 ^ a)
def plFit (c : Nat) (o : Pld) : Bool := decide (o.mixed.length = 2 ^ c) && decide (o.point.length = 2 ^ c)
/-- What a pledge says, where a table over v variables fits. -/
def plV (p : Int) (k : Nat) (sh rt : Int) (n : Nat) (D : List Int) (v : Nat) (at_ : List Int) (asked : Nat) (o : Pld) : Int × Bool :=
  if (plFit (v - v / 2) o && (plShow p k n (v / 2) o (plL p k D o at_ n asked) && plAll p sh rt (plR p k D o at_) (v / 2) at_ o (plL p k D o at_ n asked))) = true then (plN p (v / 2) (v - v / 2) at_ o, true) else (0, false)
theorem plAll_not {p sh rt r : Int} {a : Nat} {at_ : List Int} {o : Pld} {L : List Int} {i : Nat} (hi : i < L.length) (h : plOk p sh rt r a at_ o L i = false) : plAll p sh rt r a at_ o L = false := by
  cases hb : plAll p sh rt r a at_ o L with
  | false => rfl
  | true =>
    have := List.all_eq_true.1 hb i (List.mem_range.2 hi)
    rw [h] at this; cases this
theorem plAll_yes {p sh rt r : Int} {a : Nat} {at_ : List Int} {o : Pld} {L : List Int} (h : ∀ j, j < L.length → plOk p sh rt r a at_ o L j = true) : plAll p sh rt r a at_ o L = true := List.all_eq_true.2 fun i hi => h i (List.mem_range.1 hi)
theorem plL_in {p : Int} {k : Nat} {D : List Int} {o : Pld} {at_ : List Int} {n : Int} {asked : Nat} (hn : 1 ≤ n) {i : Nat} (hi : i < (plL p k D o at_ n asked).length) : 0 ≤ nth (plL p k D o at_ n asked) i ∧ nth (plL p k D o at_ n asked) i < n := by
  have := nth_mem hi
  exact plcL_in hn ((onceL_mem _).1 this)
theorem plL_len {p : Int} {k : Nat} {D : List Int} {o : Pld} {at_ : List Int} {n : Int} {asked : Nat} : (plL p k D o at_ n asked).length ≤ asked := by
  have := once_len (plcL p k (plD5 p k D o at_) n asked)
  rw [plcL_length] at this; exact this
/-- Where it shows, each row is as long. -/
theorem plShow_row {p : Int} {k n a : Nat} {o : Pld} {L : List Int} (h : plShow p k n a o L = true) : o.places = L ∧ o.rows.length = L.length ∧ ∀ i, i < o.rows.length → (nthL o.rows i).length = 2 ^ a := by
  unfold plShow showsB at h
  simp only [Bool.and_eq_true, beq_iff_eq, List.all_eq_true, decide_eq_true_eq] at h
  obtain ⟨⟨h1, h2⟩, h3⟩ := h
  unfold treeB at h3
  simp only [Bool.and_eq_true, decide_eq_true_eq] at h3
  refine ⟨h1, by rw [← h1]; exact h3.1.1.2, fun i hi => h2 _ (by rw [nthL_eq hi]; exact List.getElem_mem hi)⟩
/-- The document's two sums. -/
theorem dot_pows (p r : Int) (a : Nat) (l : List Int) : dtU p (nth (powsL p r (2 ^ a))) l (2 ^ a) = dtU p (fun j => fpow p r j) l (2 ^ a) := dtU_congr p _ (fun j hj => powsL_nth p r _ j hj) (fun _ _ => rfl)
theorem dot_powsM (p r : Int) (m : Nat) (l : List Int) : dtU p (nth (powsL p r m)) l m = dtU p (fun j => fpow p r j) l m := dtU_congr p _ (fun j hj => powsL_nth p r _ j hj) (fun _ _ => rfl)
theorem dot_units (p : Int) (t : List Int) (m : Nat) (l : List Int) : dtU p (nth (unitsL p t m)) l m = dtU p (fun j => wgt t j % p) l m := dtU_congr p _ (fun _j hj => unitsL_nth p t hj) (fun _ _ => rfl)
end Go.Att
end
section
namespace Go.Proofs.YtcpnidomdkaefaaGreatDoor
open Go.RowKit Go.Att
set_option maxRecDepth 100000 in
set_option maxHeartbeats 4000000 in
theorem rfits_big {w : World} (p n sh r v : Int) (hv : 12 < v) :
    Calls Tryz.prog 20 #[.agg #[.int .i64 p, .int .i64 n, .int .i64 sh, .int .i64 r], .int .i64 v] w fun e w' => e = .returned (.bool false) ∧ Ext w w' := by
  have HX0 := Lib.hid (Ext.alloc w (Obj.cells #[.int .i64 p, .int .i64 n, .int .i64 sh, .int .i64 r] 37))
  go_enter Tryz.func20, Tryz.ntmps20
  go_wp2_with fail
  go_ret
  exact ⟨rfl, HX0.out⟩
/-- What the two boxes hold. -/
structure DocS (w0 : World) (q : Nat) (ds os : List Value) (W : World) : Prop where
  x : Ext w0 W
  d : BlkOf W q ds 37
  o : BlkOf W (q + 1) os 27
theorem DocS.ext {w0 W W' : World} {q : Nat} {ds os : List Value} (h : DocS w0 q ds os W) (hx : Ext W W') : DocS w0 q ds os W' := ⟨h.x.trans hx, h.d.ext hx, h.o.ext hx⟩
theorem DocS.grown {w0 W W' : World} {q b : Nat} {ds os : List Value} (h : DocS w0 q ds os W) (hg : W.grownBy W' (some b)) (hb : w0.heap.size ≤ b) (hq : b < q) : DocS w0 q ds os W' :=
  ⟨Below.grown h.x.below hg h.x.size (fun k e => by cases e; exact hb), h.d.grown hg (fun e => by have := Option.some.inj e; omega), h.o.grown hg (fun e => by have := Option.some.inj e; omega)⟩
/-- What is returned. -/
def PlGot (w : World) (b : Nat) (n : Int) (y : Bool) (e : Ending) (w' : World) : Prop := e = .returned (.tuple #[.int .i64 n, .bool y]) ∧ w.grownBy w' (some b)
section
variable {w0 w : World} {b : Nat} {p : Int} {k : Nat} {D : List Int} {va r0 r1 r2 r3 r4 r5 : Value} {at_ : List Int} {o : Pld} {sh rt : Int}
set_option maxRecDepth 100000 in
set_option maxHeartbeats 8000000 in
/-- Where it does not fit. -/
theorem rpcheck_bad (v asked n : Int) (hn1 : 1 ≤ n) (hn2 : n ≤ 65536) (ha : Ints w va at_) (hv : ¬ (0 ≤ v ∧ v ≤ 12 ∧ roomB n v.toNat = true ∧ (at_.length : Int) = v ∧ 1 ≤ asked ∧ asked ≤ 64)) :
    Calls Tryz.prog 11 #[.pointer (some ⟨b, 0, none⟩), .agg #[.int .i64 p, .int .i64 n, .int .i64 sh, .int .i64 rt], .int .i64 v, va, .int .i64 asked, .agg #[r0, r1, r2, r3, r4, r5]] w (PlGot w b 0 false) := by
  have hla := ha.run_len (P := Tryz.prog) slInts
  have hal := ha.len
  clear ha
  obtain ⟨fit, hfit⟩ : ∃ fit, (decide (0 ≤ v ∧ v ≤ 12) && roomB n v.toNat) = fit := ⟨_, rfl⟩
  have CF := Lib.hid (show ∀ W, Calls Tryz.prog 20 #[.agg #[.int .i64 p, .int .i64 n, .int .i64 sh, .int .i64 rt], .int .i64 v] W fun e w' => e = .returned (.bool fit) ∧ Ext W w' from fun W => by
    by_cases h1 : v < 0
    · rw [← hfit, decide_eq_false (by omega)]; exact rfits_no p n sh rt v h1
    by_cases h2 : 12 < v
    · rw [← hfit, decide_eq_false (by omega)]; exact rfits_big p n sh rt v h2
    rw [← hfit, decide_eq_true (by omega)]
    have := rfits_ok (w := W) p n sh rt v.toNat (by omega) hn1 hn2
    rw [Int.toNat_of_nonneg (by omega)] at this
    exact this)
  have hX := (Ext.alloc w (Obj.cells #[.int .i64 p, .int .i64 n, .int .i64 sh, .int .i64 rt] 37)).trans (Ext.alloc _ (Obj.cells #[r0, r1, r2, r3, r4, r5] 27))
  have hK := (BlkOf.new w [.int .i64 p, .int .i64 n, .int .i64 sh, .int .i64 rt] 37).ext (Ext.alloc _ (Obj.cells #[r0, r1, r2, r3, r4, r5] 27))
  have HX := Lib.hid hX; have HK := Lib.hid hK
  clear hX hK
  have HCND := Lib.hid (show fit = true → (at_.length : Int) = v → 1 ≤ asked → asked ≤ 64 → False from fun h1 h2 h3 h4 => by
    rw [← hfit, Bool.and_eq_true, decide_eq_true_eq] at h1
    exact hv ⟨h1.1.1, h1.1.2, h1.2, h2, h3, h4⟩)
  clear hv hfit
  go_enter Tryz.func11, Tryz.ntmps11
  go_upto_region 1 with (fail)
  generalize (w.alloc (Obj.cells #[.int .i64 p, .int .i64 n, .int .i64 sh, .int .i64 rt] 37)).alloc (Obj.cells #[r0, r1, r2, r3, r4, r5] 27) = W1 at *
  generalize w.heap.size = q at *
  have k0 : W1.cell? ⟨q, 0, none⟩ = some (.int .i64 p) := HK.out.cell 0
  have k1 : W1.cell? ⟨q, 1, none⟩ = some (.int .i64 n) := HK.out.cell 1
  have k2 : W1.cell? ⟨q, 2, none⟩ = some (.int .i64 sh) := HK.out.cell 2
  have k3 : W1.cell? ⟨q, 3, none⟩ = some (.int .i64 rt) := HK.out.cell 3
  go_upto_region 2 with (go_at_call 20; refine (CF.out _).mono ?_; rintro e w2 ⟨rfl, hx2⟩; have HX2 := Lib.hid (HX.out.trans hx2); clear hx2)
  clear k0 k1 k2 k3
  cases fit with
  | false =>
    go_wp2_with fail
    go_ret2
    exact ⟨rfl, HX2.out.grownBy _⟩
  | true =>
    by_cases h2 : (at_.length : Int) = v
    case neg =>
      have h2b : ((at_.length : Int) != v) = true := by rw [bne_iff_ne]; exact h2
      go_wp2_with fail
      go_ret2
      exact ⟨rfl, HX2.out.grownBy _⟩
    subst h2
    by_cases h3 : asked < 1
    · go_wp2_with fail
      go_ret2
      exact ⟨rfl, HX2.out.grownBy _⟩
    by_cases h4 : 64 < asked
    · go_wp2_with fail
      go_ret2
      exact ⟨rfl, HX2.out.grownBy _⟩
    exact (HCND.out rfl rfl (by omega) (by omega)).elim
end
end Go.Proofs.YtcpnidomdkaefaaGreatDoor
end
