/- A layer is told, the program's side: contract. -/
import Derived.Test.YtaajjaadlpgbiaaGreatDoorGd
import Derived.Test.YtaajjaadlpgbiaaGreatDoorZx4
import Derived.Deep.RegionHeld3
import Derived.Deep.DrawnRows
namespace Go.Att
open Go.RowKit
theorem own_other {w w' : World} {B e sz n : Nat} {v : Value} {xs : List Value} {b : Option Nat} (h : w.ownsRow B e sz v n xs) (hg : w.grownBy w' b) (hne : ∀ q, b = some q → v.ownBlock ≠ some q) : w'.ownsRow B e sz v n xs := by
  refine ⟨h.1, ?_⟩
  rcases h.2 with h2 | ⟨g, cap, cur, hv, hb, hgg, hr⟩
  · exact .inl h2
  · exact .inr ⟨g, cap, cur, hv, hb, by rw [hg.block g (Array.getElem?_eq_some_iff.1 hgg).1 (fun e => hne g e.symm (by rw [hv]; rfl))]; exact hgg, hr⟩
theorem upTo_block {B C : Nat} (v : Value) (k : Nat) (h : ∀ q, v.ownBlock = some q → B ≤ q ∧ q < C) : ∀ q, (upTo v k).ownBlock = some q → B ≤ q ∧ q < C := fun q hq => h q (by
  unfold upTo at hq
  split at hq
  · rename_i a _ _
    unfold sliced at hq
    cases a with
    | none => simp [Value.ownBlock] at hq
    | some a =>
      split at hq
      · exact hq
      · rw [← hq]; simp only [Option.map_some, Value.ownBlock, Addr.add]; simp
  · exact hq)
theorem fromV_block {B C : Nat} (v : Value) (k : Nat) (h : ∀ q, v.ownBlock = some q → B ≤ q ∧ q < C) : ∀ q, (fromV v k).ownBlock = some q → B ≤ q ∧ q < C := fun q hq => h q (by
  unfold fromV at hq
  split at hq
  · rename_i a _ _
    unfold sliced at hq
    cases a with
    | none => simp [Value.ownBlock] at hq
    | some a =>
      split at hq
      · exact hq
      · rw [← hq]; simp only [Option.map_some, Value.ownBlock, Addr.add]; split <;> rfl
  · exact hq)
theorem Grid.other {B : Nat} {w w' : World} {e : TypeId} {v : Value} {L : List (List Int)} {R : Nat → Value} {b : Option Nat} (h : Grid B w e v L R) (hg : w.grownBy w' b) (hne : ∀ q, b = some q → v.ownBlock ≠ some q) (hne2 : ∀ q, b = some q → ∀ i, i < L.length → (R i).ownBlock ≠ some q) : Grid B w' e v L R :=
  ⟨own_other h.own hg hne, fun i hi => (h.row i hi).grown hg fun k hk e => hne2 k e.symm i hi hk, fun i hi k hk => ⟨(h.lt i hi k hk).1, Nat.lt_of_lt_of_le (h.lt i hi k hk).2.1 hg.size, (h.lt i hi k hk).2.2⟩⟩
/-- A slice lies in memory that is new since, and there. -/
def InB (w w' : World) (v : Value) : Prop := ∀ q, v.ownBlock = some q → w.heap.size ≤ q ∧ q < w'.heap.size
theorem InB.clp {w w' : World} {v : Value} (h : InB w w' v) (n : Nat) : InB w w' (clpV v n) := fun q hq => h q (by rw [clpV_block] at hq; exact hq)
/-- Two worlds of a call that writes a chain alone. -/
theorem grown_old {w0 w w' : World} {cb : Nat} (h : Ext w0 w) (hg : w.grownBy w' (some cb)) (hb : w0.heap.size ≤ cb) : Ext w0 w' := Below.grown h.below hg h.size (fun q e => by cases e; exact hb)
end Go.Att
namespace Go.Proofs.YtaajjaadlpgbiaaGreatDoor
open Go.RowKit Go.Att
section
variable {w0 w : World} {cb bs bf b : Nat} {p g : Int} {k : Nat} {fs : List Int} {wd : Int} {lv vv vz : Value} {Ls : List (List Tri)} {R S : Nat → Value} {inp z D : List Int}
theorem clipR_any {w : World} {v : Value} {n : Nat} {cs : List Value} (h : Sl w 1 v n cs) : Calls Tryz.prog 63 #[v] w fun e w' => e = .returned (clpV v n) ∧ w = w' := by
  have hll := Sl.run_len (P := Tryz.prog) h slRows
  have hcl := Sl.run_clp (P := Tryz.prog) h slRows
  go_enter Tryz.func63, Tryz.ntmps63
  go_wp2
  go_ret
  exact ⟨rfl, rfl⟩
set_option maxRecDepth 100000 in
set_option maxHeartbeats 16000000 in
theorem down_any (hf : Fld w0 (.pointer (some ⟨bf, 0, none⟩)) p g fs) (hs : Spg w0 (.pointer (some ⟨bs, 0, none⟩)) p k) (hw : Wlk w0 b (.pointer (some ⟨bf, 0, none⟩)) wd lv vv) (hL : LysAt w0 lv Ls R) (hV : RwsAt w0 vv (vals p Ls inp Ls.length) S) (hE : cirErr wd Ls = 0) (hin : (inp.length : Int) = 2 ^ wd.toNat)
    (hx : Ext w0 w) (hcb : w0.heap.size ≤ cb) (hc : ChP w cb (.pointer (some ⟨bs, 0, none⟩)) D) (hD : D.length = 4) (i : Nat) (hi : i < Ls.length) (n : Nat) (hn : beneath wd Ls i = n) (hz : Ints w vz z) (lz : z.length ≤ 30) (hzb : ∀ q, vz.ownBlock = some q → some q ≠ some cb) (f : List Int → Int) (hfp : ∀ xs, f xs = partS (nthY Ls i) n (vrow p Ls inp i) z xs (nthY Ls i).length % p) :
    Calls Tryz.prog 61 #[.pointer (some ⟨b, 0, none⟩), .pointer (some ⟨cb, 0, none⟩), .int .i64 i, vz] w fun e w' => ∃ vt vl vn T, e = .returned (.tuple #[vt, vl, vn]) ∧ w.grownBy w' (some cb) ∧
      ChP w' cb (.pointer (some ⟨bs, 0, none⟩)) (stepP p k 4 (stepP p k 3 (dwn p k f D (2 * n)).2 (lineN p (vrow p Ls inp i) ((dwn p k f D (2 * n)).1.take n) ((dwn p k f D (2 * n)).1.drop n) (n + 1))) []) ∧
      RwsAt w' vt (dwnT p k f D (2 * n)) T ∧ Ints w' vl (lineN p (vrow p Ls inp i) ((dwn p k f D (2 * n)).1.take n) ((dwn p k f D (2 * n)).1.drop n) (n + 1)) ∧
      Ints w' vn (onL p ((dwn p k f D (2 * n)).1.take n) ((dwn p k f D (2 * n)).1.drop n) (nth (stepP p k 4 (stepP p k 3 (dwn p k f D (2 * n)).2 (lineN p (vrow p Ls inp i) ((dwn p k f D (2 * n)).1.take n) ((dwn p k f D (2 * n)).1.drop n) (n + 1))) []) 0)) ∧
      InB w w' vt ∧ (∀ j, j < 2 * n → InB w w' (T j)) ∧ InB w w' vl ∧ InB w w' vn ∧ DigNew w w' cb := by
  have HF := Lib.hid hf; have HS := Lib.hid hs; have HW := Lib.hid hw; have HL := Lib.hid hL; have HV := Lib.hid hV; have HE := Lib.hid hE; have HIN := Lib.hid hin; have HX := Lib.hid hx; have HC := Lib.hid hc; have HD := Lib.hid hD; have HN := Lib.hid hn; have HZ := Lib.hid hz; have HZB := Lib.hid hzb; have HFP := Lib.hid hfp
  have hn6 : n ≤ 6 := by have := (beneath_bd (cirErr_ok hE).1 hi).2; omega
  have hlt : cb < w.heap.size := hc.lt
  have k0 := (HW.out.ext HX.out).c0; have k1 := (HW.out.ext HX.out).c1; have k2 := (HW.out.ext HX.out).c2; have k3 := (HW.out.ext HX.out).c3
  have hi8 : Ls.length ≤ 8 := (cirErr_ok hE).1.2.2.2.1
  clear hf hs hw hL hV hE hin hx hc hD hn hz hzb hfp
  obtain ⟨aL, cL, rfl⟩ := HL.out.shape
  go_enter Tryz.func61, Tryz.ntmps61
  go_wp2_with (go_at_call 98; refine (varsB_any wd _ Ls R i _ (HL.out.ext HX.out) hi).mono ?_; rw [HN.out]; rintro e w1 ⟨rfl, hx1⟩)
  have HG1 := Lib.hid (hx1.grownBy (some cb))
  have HC1 := Lib.hid (HC.out.ext hx1)
  clear hx1 k0 k1 k2 k3
  go_loopw [8, 12, 13, 14, 29] (fun x8 x12 _ _ x29 wr => ∃ (m : Nat) (T : Nat → Value), m ≤ 2 * n ∧ x29 = .int .i64 m ∧ Hid (Grid w.heap.size wr 23 x8 (dwnT p k f D m) T) ∧ Hid (wr.ownsRow w.heap.size 3 1 x12 m ((dwn p k f D m).1.map (Value.int .i64))) ∧ Hid (w.grownBy wr (some cb)) ∧ Hid (ChP wr cb (.pointer (some ⟨bs, 0, none⟩)) (dwn p k f D m).2) ∧ Hid (∀ v, wr.cell? ⟨cb, 1, none⟩ = some v → ∀ q, v.ownBlock = some q → some q ≠ x8.ownBlock) ∧ Hid (∀ q, x12.ownBlock = some q → x8.ownBlock ≠ some q ∧ ∀ j, j < m → (T j).ownBlock ≠ some q)) (fun _ _ _ _ x29 _ => 2 * n - (intOf x29).toNat)
  case atStart => exact ⟨0, fun _ => .slice none 0 0, Nat.zero_le _, rfl, Lib.hid (Grid.nil _ _ _ _), Lib.hid (World.ownsRow_nil _ _ _ _), HG1, HC1, Lib.hid (fun v _ q _ e => by cases e), Lib.hid (fun q hq => by cases hq)⟩
  case round =>
    clear HG1 HC1
    obtain ⟨m, T, hm, rfl, HT, HXS, HG, HCM, HDT, HSEP⟩ := hrel
    by_cases hmn : m < 2 * n
    · have hdl := dwn_len p k f D m
      have hdd := dwn_dig p k f HD.out m
      have HTS := Lib.hid (dwnT_snoc p k f D m)
      have hsn : dwn p k f D (m + 1) = ((dwn p k f D m).1 ++ [nth (stepP p k 4 (stepP p k 3 (dwn p k f D m).2 (told3 f (dwn p k f D m).1)) []) 0], stepP p k 4 (stepP p k 3 (dwn p k f D m).2 (told3 f (dwn p k f D m).1)) []) := rfl
      have HSN := Lib.hid hsn
      have HTL := Lib.hid (dwnT_len p k f D m)
      generalize dwn p k f D m = st at *
      obtain ⟨xs, DD⟩ := st
      dsimp only at hdl hdd HSN HTS HXS HCM
      have HXL := Lib.hid hdl
      clear hdl hsn
      go_wp2_with fail
      have HXW := Lib.hid (grown_old HX.out HG.out hcb)
      have HZW := Lib.hid (HZ.out.grown HG.out HZB.out)
      generalize wr = W at *
      go_loopw [13, 14, 31] (fun x13 _ x31 wq => ∃ t : Nat, t ≤ 3 ∧ x31 = .int .i64 t ∧ Hid (wq.ownsRow W.heap.size 3 1 x13 t (((told3 f xs).take t).map (Value.int .i64))) ∧ Hid (Ext W wq)) (fun _ _ x31 _ => 3 - (intOf x31).toNat)
      case atStart => exact ⟨0, by omega, rfl, Lib.hid (World.ownsRow_nil _ _ _ _), Lib.hid (Ext.refl _)⟩
      case round =>
        obtain ⟨t, ht, rfl, HOL, HXQ⟩ := hrel
        by_cases ht3 : t < 3
        · have HXI := Lib.hid (Ints.of_own (own_ext HXS.out HXQ.out))
          have HTK := Lib.hid (told3_take f xs t ht3)
          have HXO := Lib.hid (HXW.out.trans HXQ.out)
          have ht33 : (t : Int) < 3 := by omega
          go_wp2_with (first | (go_at_call 115; refine (clone_any HXI.out (by rw [HXL.out]; omega)).mono ?_; rintro e wA ⟨vA, rfl, hxA, hoA⟩; rw [HXL.out] at hoA) | (at_builtin; refine wpList_appNw rfl _ _ 23 rfl slInts rfl hxA.size hoA rfl _ rfl (by intro u hu; simp at hu; subst hu; rfl) rfl (by omega) (by omega) ?_; intro vB wB hoB hgB _; have hxB := Ext.own_grown hxA hoA hgB; have HXB := Lib.hid (HXQ.out.trans hxB); have HXOB := Lib.hid (HXO.out.trans hxB); have HXIB := Lib.hid (show Ints wB vB (xs ++ [(t : Int)]) from Ints.of_own (by rw [List.map_append]; exact hoB)); have HXRB := Lib.hid hxB; clear hxA hoA hgB hoB hxB) | (go_at_call 114; refine (wpart_any (HF.out.ext HXOB.out) (HW.out.ext HXOB.out) (HL.out.ext HXOB.out) (HV.out.ext HXOB.out) HE.out HIN.out i hi n HN.out vz vB z (xs ++ [(t : Int)]) (HZW.out.ext HXB.out) HXIB.out lz (by rw [List.length_append, HXL.out, List.length_singleton]; omega)).mono ?_; rw [← HFP.out]; rintro e wC ⟨rfl, hxC⟩; have hoC := own_ext HOL.out (HXRB.out.trans hxC); have hxWC := HXB.out.trans hxC) | (at_builtin; refine wpList_appNw rfl _ _ 23 rfl slInts rfl hxWC.size hoC rfl _ rfl (by intro u hu; simp at hu; subst hu; rfl) rfl (by omega) (by omega) ?_; intro vD wD hoD hgD _))
          go_roundw
          case rel => exact ⟨vD, _, _, ⟨t + 1, by omega, by go_num, Lib.hid (by rw [← List.map_take, HTK.out, List.map_append]; exact hoD), Lib.hid (Ext.own_grown hxWC hoC hgD)⟩, rfl, rfl, rfl⟩
          case measure => simp [intOf]; omega
        · obtain rfl : t = 3 := by omega
          have HOL3 := Lib.hid (show wr.ownsRow W.heap.size 3 1 _ (told3 f xs).length ((told3 f xs).map (Value.int .i64)) from by have := HOL.out; rw [List.take_of_length_le (by simp [told3])] at this; exact this)
          have HIL := Lib.hid (Ints.of_own HOL3.out)
          have HTQ := Lib.hid (HT.out.ext HXQ.out)
          have htq := HTQ.out.own
          have HCQ := Lib.hid (HCM.out.ext HXQ.out)
          have HXSQ := Lib.hid (own_ext HXS.out HXQ.out)
          have hszW : w.heap.size ≤ wr.heap.size := Nat.le_trans HG.out.size HXQ.out.size
          rw [HTL.out] at htq
          clear HOL
          obtain ⟨al, cl, hshl⟩ := own_shape HOL3.out
          have HLB := Lib.hid (HOL3.out.lt)
          rw [hshl] at HLB HIL
          have hltW : cb < W.heap.size := Nat.lt_of_lt_of_le hlt HG.out.size
          go_wp2_with (at_builtin; refine wpList_appNw rfl _ _ 22 rfl slRows rfl hszW htq rfl _ rfl (by intro u hu; simp at hu; subst hu; rfl) rfl (by omega) (by omega) ?_; intro vE wE hoE hgE hmE)
          have hqt : ∀ q, Value.ownBlock _ = some q → w.heap.size ≤ q ∧ q < W.heap.size := fun q hq => HT.out.own.lt q hq
          have HTE := Lib.hid (HTQ.out.push HIL.out (fun q hq => ⟨Nat.le_trans HG.out.size (HLB.out q hq).1, (HLB.out q hq).2, fun e => by have h5 := (HLB.out q hq).1; have h6 := (hqt q e.symm).2; omega⟩) (by rw [HTL.out]; exact hoE) hgE hmE)
          have HGE := Lib.hid (grown_low (HG.out.trans (HXQ.out.grownBy _)) hgE (fun q hq => (hqt q hq).1))
          have HCE := Lib.hid (HCQ.out.grown hgE (fun e => by have := (hqt _ e.symm).1; omega) (fun v hv q hq => by
            rw [World.cell?_of_block (a := ⟨cb, 1, none⟩) (HXQ.out.below.block cb hltW)] at hv
            exact HDT.out v hv q hq))
          have HXSE := Lib.hid (own_other HXSQ.out hgE (fun q hq h => (HSEP.out q h).1 hq))
          have HILE := Lib.hid (HIL.out.grown hgE (fun q hq e => by have h5 := (HLB.out q hq).1; have h6 := (hqt q e.symm).2; omega))
          have hszE := hgE.size
          refine (ctake_any (p := p) (k := k) HCE.out (HS.out.ext (grown_old HX.out HGE.out hcb)) _ (told3 f xs) HILE.out (by rw [hdd]; simp [told3])).mono ?_
          rintro e wF ⟨rfl, hgF, hcF, hdF⟩
          have HGF := Lib.hid (HGE.out.trans hgF)
          have HTF := Lib.hid (HTE.out.low hgF hlt)
          have HXSF := Lib.hid (own_low HXSE.out hgF hlt)
          have HCF := Lib.hid hcF
          have hszF := hgF.size
          clear hcF hdF
          go_wp2_with fail
          refine (cdraw_any (p := p) (k := k) HCF.out (HS.out.ext (grown_old HX.out HGF.out hcb)) (by rw [stepP_length]; omega)).mono ?_
          rintro e wH ⟨rfl, hgH, hcH, hdH⟩
          have HGH := Lib.hid (HGF.out.trans hgH)
          have HTH := Lib.hid (HTF.out.low hgH hlt)
          have HXSH := Lib.hid (own_low HXSF.out hgH hlt)
          have HCH := Lib.hid hcH; have HDH := Lib.hid hdH
          have hszH := hgH.size
          have hszw : w.heap.size ≤ wH.heap.size := by omega
          clear hcH hdH
          go_wp2_with (at_builtin; refine wpList_appNw rfl _ _ 23 rfl slInts rfl hszw HXSH.out rfl _ rfl (by intro u hu; simp at hu; subst hu; rfl) rfl (by omega) (by omega) ?_; intro vI wI hoI hgI hmI)
          have g1 : ∀ q, Value.ownBlock _ = some q → Value.ownBlock vE ≠ some q := fun q hq h => by
            have h7 := (HXS.out.lt q hq).2
            rcases hmE with e | e
            · exact (HSEP.out q hq).1 (by rw [← e]; exact h)
            · have h5 := e q h
              have h6 := HXQ.out.size
              omega
          have g2 : ∀ q, Value.ownBlock _ = some q → ∀ j, j < m + 1 → ((fun i => if i < (dwnT p k f D m).length then T i else Value.slice al (told3 f xs).length cl) j).ownBlock ≠ some q := fun q hq j hj h => by
            have h7 := (HXS.out.lt q hq).2
            simp only [HTL.out] at h
            by_cases hjm : j < m
            · rw [if_pos hjm] at h; exact (HSEP.out q hq).2 j hjm h
            · rw [if_neg hjm] at h
              have := (HLB.out q h).1
              omega
          have hne : some cb ≠ Value.ownBlock _ := fun e => by have := (HXSH.out.lt _ e.symm).1; omega
          have HTI := Lib.hid (HTH.out.other hgI (fun q hq => g1 q hq) (fun q hq j hj => g2 q hq j (by rw [List.length_append, HTL.out, List.length_singleton] at hj; exact hj)))
          have HCI := Lib.hid (HCH.out.grown hgI hne (fun v hv q hq e => by have h5 := HDH.out v hv q hq; have h6 := (HXSF.out.lt q e.symm).2; omega))
          have HDI := Lib.hid (show ∀ v, wI.cell? ⟨cb, 1, none⟩ = some v → ∀ q, v.ownBlock = some q → some q ≠ vE.ownBlock from fun v hv q hq e => by
            rw [World.cell?_of_block (a := ⟨cb, 1, none⟩) (hgI.block cb HCH.out.lt hne)] at hv
            have h5 := HDH.out v hv q hq
            have h6 := (HTE.out.own.lt q e.symm).2
            omega)
          have HSI := Lib.hid (show ∀ q, vI.ownBlock = some q → vE.ownBlock ≠ some q ∧ ∀ j, j < m + 1 → ((fun i => if i < (dwnT p k f D m).length then T i else Value.slice al (told3 f xs).length cl) j).ownBlock ≠ some q from fun q hq => by
            rcases hmI with e | e
            · rw [e] at hq
              exact ⟨g1 q hq, g2 q hq⟩
            · have h5 := e q hq
              refine ⟨fun h => ?_, fun j hj h => ?_⟩
              · have := (HTE.out.own.lt q h).2; omega
              · have := (HTE.out.lt j (by rw [List.length_append, HTL.out, List.length_singleton]; exact hj) q h).2.1; omega)
          have HGI := Lib.hid (grown_low HGH.out hgI (fun q hq => (HXSH.out.lt q hq).1))
          have HOI := Lib.hid hoI
          clear g1 g2 hne hoI hgI hmI hgH hgF hgE hmE hoE
          go_roundw
          case rel => exact ⟨m + 1, (fun i => if i < (dwnT p k f D m).length then T i else Value.slice al (told3 f xs).length cl), by omega, by go_num, Lib.hid (by rw [HTS.out]; exact HTI.out), Lib.hid (by rw [HSN.out, List.map_append]; exact HOI.out), HGI, Lib.hid (by rw [HSN.out]; exact HCI.out), HDI, HSI⟩
          case measure => simp [intOf]; omega
    · obtain rfl : m = 2 * n := by omega
      have hdl := dwn_len p k f D (2 * n)
      have hdd := dwn_dig p k f HD.out (2 * n)
      have HTL := Lib.hid (dwnT_len p k f D (2 * n))
      obtain ⟨st, hst⟩ : ∃ st, dwn p k f D (2 * n) = st := ⟨_, rfl⟩
      have HST := Lib.hid hst
      rw [hst] at hdl hdd HXS HCM
      clear hst
      obtain ⟨X, DD⟩ := st
      dsimp only at hdl hdd HXS HCM HST
      have hxi := Ints.of_own HXS.out
      have htk := hxi.run_take (P := Tryz.prog) slInts n (by omega)
      have hdr := hxi.run_drop (P := Tryz.prog) slInts n (by omega)
      have HXT := Lib.hid (hxi.take n (by omega)); have HXD := Lib.hid (hxi.drop n (by omega))
      have HLT := Lib.hid (show (X.take n).length = n from by rw [List.length_take]; omega)
      have HLD := Lib.hid (show (X.drop n).length = n from by rw [List.length_drop]; omega)
      have HBT := Lib.hid (HXS.out.lt)
      clear hxi
      obtain ⟨xl, hxl⟩ : ∃ xl, X.take n = xl := ⟨_, rfl⟩
      obtain ⟨yl, hyl⟩ : ∃ yl, X.drop n = yl := ⟨_, rfl⟩
      rw [hxl] at HXT HLT
      rw [hyl] at HXD HLD
      have HEX := Lib.hid hxl; have HEY := Lib.hid hyl
      clear hxl hyl
      have HBX := Lib.hid (upTo_block _ n HBT.out)
      have HBY := Lib.hid (fromV_block _ n HBT.out)
      go_wp2_with fail
      go_quiet (fail)
      have HGW := Lib.hid (HG.out.trans ((Ext.drewN wr nq).grownBy _))
      have HCW := Lib.hid (HCM.out.ext (Ext.drewN wr nq))
      have HTW := Lib.hid (HT.out.ext (Ext.drewN wr nq))
      have HXTW := Lib.hid (HXT.out.ext (Ext.drewN wr nq)); have HXDW := Lib.hid (HXD.out.ext (Ext.drewN wr nq))
      clear htk hdr HG HCM HT HXS HXT HXD HDT HSEP
      generalize wr.drewN nq = W at *
      generalize hvx : upTo _ n = vx at *
      generalize hvy : fromV _ n = vy at *
      clear hvx hvy
      have HXO := Lib.hid (grown_old HX.out HGW.out hcb)
      have hvl : i < (vals p Ls inp Ls.length).length := by rw [vals_length]; omega
      have HIXV := Lib.hid (HV.out.run_index (P := Tryz.prog) slRows i hvl)
      have hcv0 := HV.out.cell i hvl
      have hsi := HV.out.row i hvl
      rw [vals_nth _ _ _ (by omega)] at hsi
      have HTT := Lib.hid (vrow_two (p := p) HE.out HIN.out hi HN.out)
      have HSI := Lib.hid (hsi.ext HXO.out); have HCV0 := Lib.hid (HXO.out.cell hcv0)
      clear hcv0 hsi
      obtain ⟨tt, htt⟩ : ∃ tt, vrow p Ls inp i = tt := ⟨_, rfl⟩
      have HTTE := Lib.hid htt
      rw [htt] at HTT HSI
      clear htt
      generalize S i = si at *
      go_wp2_with fail
      go_loopw [9, 17, 18, 19, 68] (fun x9 _ _ _ x68 wq => ∃ t : Nat, t ≤ n + 1 ∧ x68 = .int .i64 t ∧ Hid (wq.ownsRow W.heap.size 3 1 x9 t ((lineN p tt xl yl t).map (Value.int .i64))) ∧ Hid (Ext W wq)) (fun _ _ _ _ x68 _ => n + 1 - (intOf x68).toNat)
      case atStart => exact ⟨0, by omega, rfl, Lib.hid (World.ownsRow_nil _ _ _ _), Lib.hid (Ext.refl _)⟩
      case round =>
        obtain ⟨t, ht, rfl, HOL, HXQ⟩ := hrel
        by_cases htn : t < n + 1
        · have htn2 : (t : Int) < (n : Int) + 1 := by omega
          have HLS := Lib.hid (lineN_snoc p tt xl yl t)
          obtain ⟨ev, hev⟩ : ∃ ev, ext tt (onL p xl yl t) % p = ev := ⟨_, rfl⟩
          have HEV := Lib.hid hev
          rw [hev] at HLS
          have HXOQ := Lib.hid (HXO.out.trans HXQ.out)
          have HWL := Lib.hid (HW.out.ext HXOQ.out); have HFW := Lib.hid (HF.out.ext HXOQ.out)
          have HCV := Lib.hid (HXQ.out.cell HCV0.out)
          have HXT5 := Lib.hid (HXTW.out.ext HXQ.out); have HXD5 := Lib.hid (HXDW.out.ext HXQ.out); have HSI5 := Lib.hid (HSI.out.ext HXQ.out)
          clear hev
          go_wp2_with fail
          refine wp_region_ext 24 [SP.eq (.pointer (some ⟨b, 0, none⟩)), SP.eq (.pointer (some ⟨b, 0, none⟩)), SP.eq (.pointer (some ⟨b, 0, none⟩)), SP.eq (.pointer (some ⟨bf, 0, none⟩)), SP.eq (.pointer (some ⟨b, 0, none⟩)), SP.eq (.pointer (some ⟨b, 0, none⟩)), SP.eq (.pointer (some ⟨b, 3, none⟩)), SP.eq vv, SP.eq (.int .i64 (i : Int)), SP.eq (.pointer (some (elt vv i 1))), SP.eq si, SP.eq (.pointer (some ⟨b, 0, none⟩)), SP.eq (.pointer (some ⟨b, 0, none⟩)), SP.eq (.pointer (some ⟨b, 0, none⟩)), SP.eq (.pointer (some ⟨bf, 0, none⟩)), SP.eq vx, SP.eq vy, SP.eq (.int .i64 (t : Int)), SP.ints (onL p xl yl t), SP.eq (.tuple #[.int .i64 ev, .nilIface]), SP.eq (.tuple #[.int .i64 ev, .nilIface]), SP.eq (.int .i64 ev), SP.eq .nilIface, SP.eq (.int .i64 ev)] (by kernel_rfl) (by kernel_rfl) (by kernel_rfl) ?_ ?_
          · refine ⟨?_, ?_, ?_, ?_, ?_, ?_, ?_, ?_, ?_, ?_, ?_, ?_, ?_, ?_, ?_, ?_, ?_, ?_, ?_, ?_, ?_, ?_, ?_, ?_, trivial⟩
            · refine ExtStep.mk rfl fun vs W hx hd => ?_
              clear hd
              simp only [fillA, fillL, dstL, List.take_succ_cons, List.take_zero, List.filterMap_cons, List.filterMap_nil, List.contains_cons, List.contains_nil, Nat.reduceAdd, Nat.zero_add, Nat.reduceBEq, Bool.or_false, Bool.or_true, Bool.false_eq_true, ↓reduceIte]
              go_wp2_with fail
              exact ⟨by trivial, Ext.refl _, rfl⟩
            · refine ExtStep.mk rfl fun vs W hx hd => ?_
              have e72 : vs 72 = (.pointer (some ⟨b, 0, none⟩)) := hd 0 (by kernel_rfl)
              clear hd
              simp only [fillA, fillL, dstL, List.take_succ_cons, List.take_zero, List.filterMap_cons, List.filterMap_nil, List.contains_cons, List.contains_nil, Nat.reduceAdd, Nat.zero_add, Nat.reduceBEq, Bool.or_false, Bool.or_true, Bool.false_eq_true, ↓reduceIte]
              rw [e72]
              go_wp2_with fail
              exact ⟨by trivial, Ext.refl _, rfl⟩
            · refine ExtStep.mk rfl fun vs W hx hd => ?_
              have e73 : vs 73 = (.pointer (some ⟨b, 0, none⟩)) := hd 1 (by kernel_rfl)
              clear hd
              simp only [fillA, fillL, dstL, List.take_succ_cons, List.take_zero, List.filterMap_cons, List.filterMap_nil, List.contains_cons, List.contains_nil, Nat.reduceAdd, Nat.zero_add, Nat.reduceBEq, Bool.or_false, Bool.or_true, Bool.false_eq_true, ↓reduceIte]
              rw [e73]
              go_wp2_with fail
              exact ⟨by trivial, Ext.refl _, rfl⟩
            · refine ExtStep.mk rfl fun vs W hx hd => ?_
              have e74 : vs 74 = (.pointer (some ⟨b, 0, none⟩)) := hd 2 (by kernel_rfl)
              clear hd
              simp only [fillA, fillL, dstL, List.take_succ_cons, List.take_zero, List.filterMap_cons, List.filterMap_nil, List.contains_cons, List.contains_nil, Nat.reduceAdd, Nat.zero_add, Nat.reduceBEq, Bool.or_false, Bool.or_true, Bool.false_eq_true, ↓reduceIte]
              rw [e74]
              have hk0 := (HWL.out.ext hx).c0
              go_wp2_with fail
              exact ⟨by trivial, Ext.refl _, rfl⟩
            · refine ExtStep.mk rfl fun vs W hx hd => ?_
              clear hd
              simp only [fillA, fillL, dstL, List.take_succ_cons, List.take_zero, List.filterMap_cons, List.filterMap_nil, List.contains_cons, List.contains_nil, Nat.reduceAdd, Nat.zero_add, Nat.reduceBEq, Bool.or_false, Bool.or_true, Bool.false_eq_true, ↓reduceIte]
              go_wp2_with fail
              exact ⟨by trivial, Ext.refl _, rfl⟩
            · refine ExtStep.mk rfl fun vs W hx hd => ?_
              have e76 : vs 76 = (.pointer (some ⟨b, 0, none⟩)) := hd 4 (by kernel_rfl)
              clear hd
              simp only [fillA, fillL, dstL, List.take_succ_cons, List.take_zero, List.filterMap_cons, List.filterMap_nil, List.contains_cons, List.contains_nil, Nat.reduceAdd, Nat.zero_add, Nat.reduceBEq, Bool.or_false, Bool.or_true, Bool.false_eq_true, ↓reduceIte]
              rw [e76]
              go_wp2_with fail
              exact ⟨by trivial, Ext.refl _, rfl⟩
            · refine ExtStep.mk rfl fun vs W hx hd => ?_
              have e77 : vs 77 = (.pointer (some ⟨b, 0, none⟩)) := hd 5 (by kernel_rfl)
              clear hd
              simp only [fillA, fillL, dstL, List.take_succ_cons, List.take_zero, List.filterMap_cons, List.filterMap_nil, List.contains_cons, List.contains_nil, Nat.reduceAdd, Nat.zero_add, Nat.reduceBEq, Bool.or_false, Bool.or_true, Bool.false_eq_true, ↓reduceIte]
              rw [e77]
              go_wp2_with fail
              exact ⟨by trivial, Ext.refl _, rfl⟩
            · refine ExtStep.mk rfl fun vs W hx hd => ?_
              have e78 : vs 78 = (.pointer (some ⟨b, 3, none⟩)) := hd 6 (by kernel_rfl)
              clear hd
              simp only [fillA, fillL, dstL, List.take_succ_cons, List.take_zero, List.filterMap_cons, List.filterMap_nil, List.contains_cons, List.contains_nil, Nat.reduceAdd, Nat.zero_add, Nat.reduceBEq, Bool.or_false, Bool.or_true, Bool.false_eq_true, ↓reduceIte]
              rw [e78]
              have hk0 := (HWL.out.ext hx).c3
              go_wp2_with fail
              exact ⟨by trivial, Ext.refl _, rfl⟩
            · refine ExtStep.mk rfl fun vs W hx hd => ?_
              clear hd
              simp only [fillA, fillL, dstL, List.take_succ_cons, List.take_zero, List.filterMap_cons, List.filterMap_nil, List.contains_cons, List.contains_nil, Nat.reduceAdd, Nat.zero_add, Nat.reduceBEq, Bool.or_false, Bool.or_true, Bool.false_eq_true, ↓reduceIte]
              go_wp2_with fail
              exact ⟨by trivial, Ext.refl _, rfl⟩
            · refine ExtStep.mk rfl fun vs W hx hd => ?_
              have e79 : vs 79 = vv := hd 7 (by kernel_rfl)
              have e80 : vs 80 = (.int .i64 (i : Int)) := hd 8 (by kernel_rfl)
              clear hd
              simp only [fillA, fillL, dstL, List.take_succ_cons, List.take_zero, List.filterMap_cons, List.filterMap_nil, List.contains_cons, List.contains_nil, Nat.reduceAdd, Nat.zero_add, Nat.reduceBEq, Bool.or_false, Bool.or_true, Bool.false_eq_true, ↓reduceIte]
              rw [e79, e80]
              have hk0 := HIXV.out
              go_wp2_with fail
              exact ⟨by trivial, Ext.refl _, rfl⟩
            · refine ExtStep.mk rfl fun vs W hx hd => ?_
              have e81 : vs 81 = (.pointer (some (elt vv i 1))) := hd 9 (by kernel_rfl)
              clear hd
              simp only [fillA, fillL, dstL, List.take_succ_cons, List.take_zero, List.filterMap_cons, List.filterMap_nil, List.contains_cons, List.contains_nil, Nat.reduceAdd, Nat.zero_add, Nat.reduceBEq, Bool.or_false, Bool.or_true, Bool.false_eq_true, ↓reduceIte]
              rw [e81]
              have hk0 := hx.cell HCV.out
              go_wp2_with fail
              exact ⟨by trivial, Ext.refl _, rfl⟩
            · refine ExtStep.mk rfl fun vs W hx hd => ?_
              clear hd
              simp only [fillA, fillL, dstL, List.take_succ_cons, List.take_zero, List.filterMap_cons, List.filterMap_nil, List.contains_cons, List.contains_nil, Nat.reduceAdd, Nat.zero_add, Nat.reduceBEq, Bool.or_false, Bool.or_true, Bool.false_eq_true, ↓reduceIte]
              go_wp2_with fail
              exact ⟨by trivial, Ext.refl _, rfl⟩
            · refine ExtStep.mk rfl fun vs W hx hd => ?_
              have e83 : vs 83 = (.pointer (some ⟨b, 0, none⟩)) := hd 11 (by kernel_rfl)
              clear hd
              simp only [fillA, fillL, dstL, List.take_succ_cons, List.take_zero, List.filterMap_cons, List.filterMap_nil, List.contains_cons, List.contains_nil, Nat.reduceAdd, Nat.zero_add, Nat.reduceBEq, Bool.or_false, Bool.or_true, Bool.false_eq_true, ↓reduceIte]
              rw [e83]
              go_wp2_with fail
              exact ⟨by trivial, Ext.refl _, rfl⟩
            · refine ExtStep.mk rfl fun vs W hx hd => ?_
              have e84 : vs 84 = (.pointer (some ⟨b, 0, none⟩)) := hd 12 (by kernel_rfl)
              clear hd
              simp only [fillA, fillL, dstL, List.take_succ_cons, List.take_zero, List.filterMap_cons, List.filterMap_nil, List.contains_cons, List.contains_nil, Nat.reduceAdd, Nat.zero_add, Nat.reduceBEq, Bool.or_false, Bool.or_true, Bool.false_eq_true, ↓reduceIte]
              rw [e84]
              go_wp2_with fail
              exact ⟨by trivial, Ext.refl _, rfl⟩
            · refine ExtStep.mk rfl fun vs W hx hd => ?_
              have e85 : vs 85 = (.pointer (some ⟨b, 0, none⟩)) := hd 13 (by kernel_rfl)
              clear hd
              simp only [fillA, fillL, dstL, List.take_succ_cons, List.take_zero, List.filterMap_cons, List.filterMap_nil, List.contains_cons, List.contains_nil, Nat.reduceAdd, Nat.zero_add, Nat.reduceBEq, Bool.or_false, Bool.or_true, Bool.false_eq_true, ↓reduceIte]
              rw [e85]
              have hk0 := (HWL.out.ext hx).c0
              go_wp2_with fail
              exact ⟨by trivial, Ext.refl _, rfl⟩
            · refine ExtStep.mk rfl fun vs W hx hd => ?_
              clear hd
              simp only [fillA, fillL, dstL, List.take_succ_cons, List.take_zero, List.filterMap_cons, List.filterMap_nil, List.contains_cons, List.contains_nil, Nat.reduceAdd, Nat.zero_add, Nat.reduceBEq, Bool.or_false, Bool.or_true, Bool.false_eq_true, ↓reduceIte]
              go_wp2_with fail
              exact ⟨by trivial, Ext.refl _, rfl⟩
            · refine ExtStep.mk rfl fun vs W hx hd => ?_
              clear hd
              simp only [fillA, fillL, dstL, List.take_succ_cons, List.take_zero, List.filterMap_cons, List.filterMap_nil, List.contains_cons, List.contains_nil, Nat.reduceAdd, Nat.zero_add, Nat.reduceBEq, Bool.or_false, Bool.or_true, Bool.false_eq_true, ↓reduceIte]
              go_wp2_with fail
              exact ⟨by trivial, Ext.refl _, rfl⟩
            · refine ExtStep.mk rfl fun vs W hx hd => ?_
              clear hd
              simp only [fillA, fillL, dstL, List.take_succ_cons, List.take_zero, List.filterMap_cons, List.filterMap_nil, List.contains_cons, List.contains_nil, Nat.reduceAdd, Nat.zero_add, Nat.reduceBEq, Bool.or_false, Bool.or_true, Bool.false_eq_true, ↓reduceIte]
              go_wp2_with fail
              exact ⟨by trivial, Ext.refl _, rfl⟩
            · refine ExtStep.mk rfl fun vs W hx hd => ?_
              have e86 : vs 86 = (.pointer (some ⟨bf, 0, none⟩)) := hd 14 (by kernel_rfl)
              have e87 : vs 87 = vx := hd 15 (by kernel_rfl)
              have e88 : vs 88 = vy := hd 16 (by kernel_rfl)
              have e89 : vs 89 = (.int .i64 (t : Int)) := hd 17 (by kernel_rfl)
              clear hd
              simp only [fillA, fillL, dstL, List.take_succ_cons, List.take_zero, List.filterMap_cons, List.filterMap_nil, List.contains_cons, List.contains_nil, Nat.reduceAdd, Nat.zero_add, Nat.reduceBEq, Bool.or_false, Bool.or_true, Bool.false_eq_true, ↓reduceIte]
              rw [e86, e87, e88, e89]
              go_wp2_with (go_at_call 104; refine (between_any (HFW.out.ext hx) vx vy xl yl (t : Int) (HXT5.out.ext hx) (HXD5.out.ext hx) (by rw [HLT.out, HLD.out]; exact Nat.le_refl _) (by rw [HLT.out]; omega)).mono ?_; rintro e w3 ⟨v3, rfl, hx3, ho3⟩)
              exact ⟨by trivial, hx3, Ints.of_own (by rw [HLT.out] at ho3; exact ho3)⟩
            · refine ExtStep.mk rfl fun vs W hx hd => ?_
              have e75 : vs 75 = (.pointer (some ⟨bf, 0, none⟩)) := hd 3 (by kernel_rfl)
              have e82 : vs 82 = si := hd 10 (by kernel_rfl)
              have h90 : Ints W (vs 90) (onL p xl yl t) := hd 18 (by kernel_rfl)
              clear hd
              simp only [fillA, fillL, dstL, List.take_succ_cons, List.take_zero, List.filterMap_cons, List.filterMap_nil, List.contains_cons, List.contains_nil, Nat.reduceAdd, Nat.zero_add, Nat.reduceBEq, Bool.or_false, Bool.or_true, Bool.false_eq_true, ↓reduceIte]
              rw [e75, e82]
              go_wp2_with (go_at_call 23; refine (sExtend_ok (HFW.out.ext hx) si _ tt (onL p xl yl t) (HSI5.out.ext hx) h90 n (by omega) HTT.out (by rw [onL_length]; exact HLT.out)).mono ?_; rw [HEV.out]; rintro e w3 ⟨rfl, hx3⟩)
              exact ⟨by trivial, hx3, rfl⟩
            · refine ExtStep.mk rfl fun vs W hx hd => ?_
              have e91 : vs 91 = (.tuple #[.int .i64 ev, .nilIface]) := hd 19 (by kernel_rfl)
              clear hd
              simp only [fillA, fillL, dstL, List.take_succ_cons, List.take_zero, List.filterMap_cons, List.filterMap_nil, List.contains_cons, List.contains_nil, Nat.reduceAdd, Nat.zero_add, Nat.reduceBEq, Bool.or_false, Bool.or_true, Bool.false_eq_true, ↓reduceIte]
              rw [e91]
              go_wp2_with fail
              exact ⟨by trivial, Ext.refl _, rfl⟩
            · refine ExtStep.mk rfl fun vs W hx hd => ?_
              have e71 : vs 71 = (.tuple #[.int .i64 ev, .nilIface]) := hd 20 (by kernel_rfl)
              clear hd
              simp only [fillA, fillL, dstL, List.take_succ_cons, List.take_zero, List.filterMap_cons, List.filterMap_nil, List.contains_cons, List.contains_nil, Nat.reduceAdd, Nat.zero_add, Nat.reduceBEq, Bool.or_false, Bool.or_true, Bool.false_eq_true, ↓reduceIte]
              rw [e71]
              go_wp2_with fail
              exact ⟨by trivial, Ext.refl _, rfl⟩
            · refine ExtStep.mk rfl fun vs W hx hd => ?_
              have e71 : vs 71 = (.tuple #[.int .i64 ev, .nilIface]) := hd 20 (by kernel_rfl)
              clear hd
              simp only [fillA, fillL, dstL, List.take_succ_cons, List.take_zero, List.filterMap_cons, List.filterMap_nil, List.contains_cons, List.contains_nil, Nat.reduceAdd, Nat.zero_add, Nat.reduceBEq, Bool.or_false, Bool.or_true, Bool.false_eq_true, ↓reduceIte]
              rw [e71]
              go_wp2_with fail
              exact ⟨by trivial, Ext.refl _, rfl⟩
            · refine ExtStep.mk rfl fun vs W hx hd => ?_
              have e92 : vs 92 = (.int .i64 ev) := hd 21 (by kernel_rfl)
              clear hd
              simp only [fillA, fillL, dstL, List.take_succ_cons, List.take_zero, List.filterMap_cons, List.filterMap_nil, List.contains_cons, List.contains_nil, Nat.reduceAdd, Nat.zero_add, Nat.reduceBEq, Bool.or_false, Bool.or_true, Bool.false_eq_true, ↓reduceIte]
              rw [e92]
              go_wp2_with fail
              exact ⟨by trivial, Ext.refl _, rfl⟩
          · intro vs W5 hx5 hall
            have e18 : vs 18 = .int .i64 ev := hall.at 23 (by omega) rfl
            have e93 : vs 93 = .nilIface := hall.at 22 (by omega) rfl
            clear hall
            simp only [fillA, fillL, dstL, List.take_succ_cons, List.take_zero, List.filterMap_cons, List.filterMap_nil, List.contains_cons, List.contains_nil, Nat.reduceAdd, Nat.zero_add, Nat.reduceBEq, Bool.or_false, Bool.or_true, Bool.false_eq_true, ↓reduceIte]
            rw [e18, e93]
            have HO5 := Lib.hid (own_ext HOL.out hx5)
            have hx6 := HXQ.out.trans hx5
            have HX6 := Lib.hid hx6
            have hs6 := hx6.size
            clear hx5 hx6
            go_wp2_with (at_builtin; refine wpList_appNw rfl _ _ 23 rfl slInts rfl hs6 HO5.out rfl _ rfl (by intro u hu; simp at hu; subst hu; rfl) rfl (by omega) (by omega) ?_; intro v7 w7 hO7 hG7 _)
            go_roundw
            case rel => exact ⟨v7, _, _, _, _, ⟨t + 1, by omega, by go_num, Lib.hid (by rw [HLS.out, List.map_append]; exact hO7), Lib.hid (Ext.own_grown HX6.out HO5.out hG7)⟩, rfl, rfl, rfl, rfl, rfl⟩
            case measure => simp [intOf]; omega
        · obtain rfl : t = n + 1 := by omega
          have HIL := Lib.hid (Ints.of_own HOL.out)
          have HCQ := Lib.hid (HCW.out.ext HXQ.out)
          have HGQ := Lib.hid (HGW.out.trans (HXQ.out.grownBy _))
          have hltW : cb < W.heap.size := HCW.out.lt
          have HLN := Lib.hid (lineN_len p tt xl yl (n + 1))
          obtain ⟨LL, hLL⟩ : ∃ LL, lineN p tt xl yl (n + 1) = LL := ⟨_, rfl⟩
          have HLL := Lib.hid hLL
          rw [hLL] at HIL HLN HOL
          clear hLL
          go_wp2_with fail
          refine (ctake_any (p := p) (k := k) HCQ.out (HS.out.ext (grown_old HX.out HGQ.out hcb)) _ LL HIL.out (by rw [HLN.out]; omega)).mono ?_
          rintro e wF ⟨rfl, hgF, hcF, -⟩
          have HGF := Lib.hid (HGQ.out.trans hgF)
          have HTF := Lib.hid ((HTW.out.ext HXQ.out).low hgF hlt)
          have HOF := Lib.hid (own_low HOL.out hgF hltW)
          have hcbx : ∀ {v : Value} {C : Nat}, (∀ q, v.ownBlock = some q → w.heap.size ≤ q ∧ q < C) → ∀ q, v.ownBlock = some q → some q ≠ some cb := fun h q hq e => by have h1 := (h q hq).1; have h2 := Option.some.inj e; omega
          have HXF := Lib.hid ((HXTW.out.ext HXQ.out).grown hgF (hcbx HBX.out))
          have HYF := Lib.hid ((HXDW.out.ext HXQ.out).grown hgF (hcbx HBY.out))
          have HCF := Lib.hid hcF
          have HXOF := Lib.hid (grown_old HX.out HGF.out hcb)
          have hb0 := (HW.out.ext HXOF.out).c0
          have hbcb : some b ≠ some cb := fun e => by
            have h1 := Option.some.inj e
            have h2 : b < w0.heap.size := World.block_lt_of_cell? w0 _ HW.out.c0
            omega
          have htsl := HTF.out.rws.sl
          rw [HTL.out] at htsl
          have HSLT := Lib.hid htsl
          clear hcF hgF htsl
          go_wp2_with fail
          go_region_held3 (fun w' => w'.cell? ⟨b, 0, none⟩ = some (.pointer (some ⟨bf, 0, none⟩))) (first | exact hgH.cell ((Ext.drew wF).cell hb0) hbcb | exact hxJ.cell (hgH.cell ((Ext.drew wF).cell hb0) hbcb) | go_keep) (first | (go_at_call 63; refine (clipR_any (HSLT.out.ext (Ext.drew wF))).mono ?_; rintro e w' ⟨rfl, rfl⟩) | (go_at_call 60; refine (clipI_any ((Ints.of_own HOF.out).ext (Ext.drew wF))).mono ?_; rintro e w' ⟨rfl, rfl⟩) | (go_at_call 101; refine (cdraw_any (p := p) (k := k) (HCF.out.ext (Ext.drew wF)) (HS.out.ext (HXOF.out.trans (Ext.drew wF))) (by rw [stepP_length]; omega)).mono ?_; rintro e wH ⟨rfl, hgH, hcH, hdH⟩) | (go_at_call 104; refine (between_any (HF.out.ext (grown_old (HXOF.out.trans (Ext.drew wF)) hgH hcb)) vx vy xl yl _ ((HXF.out.ext (Ext.drew wF)).grown hgH (hcbx HBX.out)) ((HYF.out.ext (Ext.drew wF)).grown hgH (hcbx HBY.out)) (by rw [HLT.out, HLD.out]; exact Nat.le_refl _) (by rw [HLT.out]; omega)).mono ?_; rintro e wJ ⟨vJ, rfl, hxJ, hoJ⟩))
          have hGJ := ((HGF.out.trans ((Ext.drew wF).grownBy _)).trans hgH).trans (hxJ.grownBy _)
          have hTJ := ((HTF.out.ext (Ext.drew wF)).low hgH hlt).ext hxJ
          have hOJ := own_ext (own_low (own_ext HOF.out (Ext.drew wF)) hgH hltW) hxJ
          have hszW := HGW.out.size
          have hszH : w.heap.size ≤ wH.heap.size := by have h1 := HGF.out.size; have h2 := hgH.size; have h3 := (Ext.drew wF).size; omega
          have HGJ := Lib.hid hGJ; have HTJ := Lib.hid hTJ; have HOJ := Lib.hid hOJ; have HDJ := Lib.hid ((hdH.ext hcH.lt hxJ).mono (show w.heap.size ≤ wF.drew.heap.size from by have h1 := HGF.out.size; have h3 := (Ext.drew wF).size; omega)); have HCJ := Lib.hid (hcH.ext hxJ); have HoJ := Lib.hid hoJ
          clear hGJ hTJ hOJ hcH hoJ hgH hxJ hdH
          go_wp2_with fail
          go_ret3
          rw [HST.out, HTTE.out]
          dsimp only
          rw [HEX.out, HEY.out, HLL.out]
          have hrw := HTJ.out.rws
          refine ⟨_, _, _, T, rfl, HGJ.out, HCJ.out, ⟨?_, hrw.row⟩, Sl.clp (Ints.of_own HOJ.out), Ints.of_own (by rw [HLT.out] at HoJ; exact HoJ.out), ?_, fun j hj q hq => ⟨(HTJ.out.lt j (by rw [HTL.out]; exact hj) q hq).1, (HTJ.out.lt j (by rw [HTL.out]; exact hj) q hq).2.1⟩, ?_, ?_, HDJ.out⟩
          · have := Sl.clp hrw.sl
            rw [HTL.out] at this ⊢
            exact this
          · exact InB.clp (fun q hq => HTJ.out.own.lt q hq) _
          · exact InB.clp (fun q hq => ⟨by have := (HOJ.out.lt q hq).1; omega, (HOJ.out.lt q hq).2⟩) _
          · exact fun q hq => ⟨by have := (HoJ.out.lt q hq).1; omega, (HoJ.out.lt q hq).2⟩
end
end Go.Proofs.YtaajjaadlpgbiaaGreatDoor
