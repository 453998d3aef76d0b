/- A text's reader, the program's side: all names are checked: contract. -/
import Derived.Test.YtgnomhbbbcfehaaGreatDoorSsj
import Derived.Test.YtgnomhbbbcfehaaGreatDoorZx8
namespace Go.Proofs.YtgnomhbbbcfehaaGreatDoor
open Go.RowKit Go.Att Go.Shelf
def CkGot (w : World) (r : Option (Nat × Nat)) (e : Ending) (w' : World) : Prop :=
  Ext w w' ∧ match r with
  | none => e = .returned (.tuple #[])
  | some (a, k) => e = .panicked [{ v := .iface 62 (.agg #[.int .i64 a, .int .i64 k]), recovered := false }]
section
variable {w w' : World} {r : Option (Nat × Nat)} {e : Ending}
theorem CkGot.ok (hr : r = none) (hg : Ext w w') : CkGot w r (.returned (.tuple #[])) w' := by subst hr; exact ⟨hg, rfl⟩
theorem CkGot.bad {a k : Nat} (hr : r = some (a, k)) (hg : Ext w w') : CkGot w r (.panicked [{ v := .iface 62 (.agg #[.int .i64 a, .int .i64 k]), recovered := false }]) w' := by subst hr; exact ⟨hg, rfl⟩
theorem CkGot.cases (h : CkGot w r e w') : Ext w w' ∧ ((r = none ∧ e = .returned (.tuple #[])) ∨ ∃ a k, r = some (a, k) ∧ e = .panicked [{ v := .iface 62 (.agg #[.int .i64 a, .int .i64 k]), recovered := false }]) := by
  obtain ⟨hg, h⟩ := h
  refine ⟨hg, ?_⟩
  cases r with
  | none => exact .inl ⟨rfl, h⟩
  | some x => exact .inr ⟨x.1, x.2, rfl, h⟩
end
def seenF (fs : List Att.Fn) (i : Nat) : List (List UInt8) := ((fs.take i).map (·.name)).reverse
theorem seenF_succ {fs : List Att.Fn} {i : Nat} {f : Att.Fn} (h : fs[i]? = some f) : seenF fs (i + 1) = f.name :: seenF fs i := by
  unfold seenF; rw [List.take_add_one, h]; simp
def seenN (l : List (List UInt8 × Nat)) (i : Nat) : List (List UInt8) := ((l.take i).map (·.1)).reverse
theorem seenN_succ {l : List (List UInt8 × Nat)} {i : Nat} {x : List UInt8 × Nat} (h : l[i]? = some x) : seenN l (i + 1) = x.1 :: seenN l i := by
  unfold seenN; rw [List.take_add_one, h]; simp
theorem seenN_all {l : List (List UInt8 × Nat)} {k : List UInt8} : k ∈ seenN l l.length ↔ k ∈ l.map (·.1) := by unfold seenN; rw [List.take_length, List.mem_reverse]
theorem chkF_drop {fs : List Att.Fn} {i : Nat} {f : Att.Fn} (h : fs[i]? = some f) (all : List (List UInt8 × Nat)) (S : List (List UInt8)) : chkF all S (fs.drop i) = if f.name ∈ S then some (f.pos, 4) else ((twiceN [] f.names).or (chkT all f.body (f.names.map (·.1)))).or (chkF all (f.name :: S) (fs.drop (i + 1))) := by
  obtain ⟨hl, rfl⟩ := List.getElem?_eq_some_iff.1 h
  rw [List.drop_eq_getElem_cons hl, chkF]
theorem twiceN_drop {l : List (List UInt8 × Nat)} {i : Nat} {x : List UInt8 × Nat} (h : l[i]? = some x) (S : List (List UInt8)) : twiceN S (l.drop i) = if x.1 ∈ S then some (x.2, 4) else twiceN (x.1 :: S) (l.drop (i + 1)) := by
  obtain ⟨hl, rfl⟩ := List.getElem?_eq_some_iff.1 h
  rw [List.drop_eq_getElem_cons hl, twiceN]
set_option maxRecDepth 100000 in
set_option maxHeartbeats 8000000 in
theorem scheck_any {fs : List Att.Fn} {lo hi pb len : Nat} {fv : Value} {w : World} (hp : BlkOf w pb [fv] 71) (hfs : fsAt fs lo hi w fv) (hpb : pb < hi) (hhi : hi ≤ w.heap.size) (hok : ∀ f ∈ fs, FnOk f) (hlf : fs.length ≤ 4000) (hwt : ∀ f ∈ fs, weiF f ≤ 4000) :
    Calls Tryz.prog 26 #[.pointer (some ⟨pb, 0, none⟩), .int .i64 len] w (CkGot w ((chkF (arit fs) [] fs).or (if mainW ∈ fs.map (·.name) then none else some (len, 6)))) := by
  obtain ⟨vs, h1, -, -⟩ := id hfs
  have hs := Sl.of_own h1 (by omega)
  have hl := Sl.run_len (P := Tryz.prog) hs slFns
  have HIX : Hid (∀ i : Nat, i < fs.length → ∀ W : World, (Instr.indexAt 69 fv (.int .i64 i)).run Tryz.prog W = .ok (.pointer (some (elt fv i 1))) W) := Lib.hid (fun i hi W => Sl.run_index hs slFns i (by omega) (by omega) W)
  have HP := Lib.hid hp; have HFS := Lib.hid hfs; have HOK := Lib.hid hok; have HWT := Lib.hid hwt
  have hmm := @run_makeMap Tryz.prog
  have HT0 := Lib.hid ((Tns.made (P := Tryz.prog) (K := 9) (B := 4) w).congr (S' := fun j => decide (j ∈ seenF fs 0)) (fun j => by simp [seenF]))
  have HX0 := Lib.hid (Ext.alloc w (.map #[] 0))
  have HB : Hid (pb < hi ∧ hi ≤ w.heap.size) := Lib.hid ⟨hpb, hhi⟩
  have p0 : (w.alloc (.map #[] 0)).cell? ⟨pb, 0, none⟩ = some fv := HX0.out.cell (hp.cell 0)
  generalize hR : (chkF (arit fs) [] fs).or (if mainW ∈ fs.map (·.name) then none else some (len, 6)) = R
  have HRR := Lib.hid hR.symm
  clear hp hfs hok hwt h1 hs hpb hhi hR
  go_enter Tryz.func26, Tryz.ntmps26
  go_upto_region 1 with fail
  generalize w.alloc (.map #[] 0) = w0 at *
  generalize hms : w.heap.size = ms at *
  have HMS := Lib.hid hms
  clear hms
  go_wp2_with fail
  go_loopw [6, 7, 8, 9, 16] (fun _ _ _ _ x16 wr => ∃ i : Nat, i ≤ fs.length ∧ x16 = .int .i64 i ∧ Hid (Ext w wr) ∧ Hid (Tns Tryz.prog 9 4 wr ms i (fun j => decide (j ∈ seenF fs i))) ∧ Hid (chkF (arit fs) [] fs = chkF (arit fs) (seenF fs i) (fs.drop i))) (fun _ _ _ _ x16 _ => fs.length - (intOf x16).toNat)
  case atStart => exact ⟨0, Nat.zero_le _, rfl, HX0, HT0, Lib.hid (by simp [seenF])⟩
  case round =>
    obtain ⟨i, hi', rfl, HX, HT, HF⟩ := hrel
    by_cases hlt : i < fs.length
    · have hix := HIX.out i hlt
      obtain ⟨f, hf⟩ : ∃ f, fs[i]? = some f := ⟨_, List.getElem?_eq_getElem hlt⟩
      obtain ⟨u, hfa, hcu⟩ := HFS.out.nth hf
      have hcell := hcu wr HX.out
      have hfm := List.mem_of_getElem? hf
      have hok := HOK.out f hfm
      have hwf := HWT.out f hfm
      have hn16 := hok.name.len
      have hnn : ∀ (j : Nat) (x : List UInt8 × Nat), f.names[j]? = some x → x.1.length ≤ 16 := fun j x h => (hok.names x (List.mem_of_getElem? h)).len
      have HBF := Lib.hid hok.body
      obtain ⟨q, nv, bv, av, rfl, hlq, hqh, hb, hn, hnA, ha, haA, ht⟩ := hfa
      have HDF := Lib.hid (HF.out.trans (chkF_drop hf (arit fs) _))
      have HSS := Lib.hid (seenF_succ hf)
      have HPQ := Lib.hid ht
      have HQ : Hid (∀ W, Ext w W → W.cell? ⟨q, 0, none⟩ = some (.string ⟨f.name.toArray⟩) ∧ W.cell? ⟨q, 1, none⟩ = some nv ∧ W.cell? ⟨q, 2, none⟩ = some bv ∧ W.cell? ⟨q, 3, none⟩ = some (.int .i64 f.pos) ∧ W.cell? ⟨q, 4, none⟩ = some av) := Lib.hid (fun W hx => by
        have h := BlkOf.ext hb hx
        exact ⟨h.cell 0, h.cell 1, h.cell 2, h.cell 3, h.cell 4⟩)
      have hsn := Sl.of_own hn (by omega)
      have hsa := Sl.of_own ha (by omega)
      have hln := Sl.run_len (P := Tryz.prog) hsn slStrs
      have HNI : Hid (∀ j : Nat, ∀ x, f.names[j]? = some x → ∀ W : World, Ext w W → (∀ W' : World, (Instr.indexAt 48 nv (.int .i64 j)).run Tryz.prog W' = .ok (.pointer (some (elt nv j 1))) W') ∧ W.cell? (elt nv j 1) = some (.string ⟨x.1.toArray⟩) ∧ (∀ W' : World, (Instr.indexAt 22 av (.int .i64 j)).run Tryz.prog W' = .ok (.pointer (some (elt av j 1))) W') ∧ W.cell? (elt av j 1) = some (.int .i64 x.2)) := Lib.hid (fun j x hx W hX => by
        have hj := (List.getElem?_eq_some_iff.1 hx).1
        exact ⟨fun W' => Sl.run_index hsn slStrs j (by omega) (by omega) W', hX.cell (sl_cell1 hsn hj (by rw [List.getElem?_map, hx]; rfl)), fun W' => Sl.run_index hsa slIntsS j (by omega) (by omega) W', hX.cell (sl_cell1 hsa hj (by rw [List.getElem?_map, hx]; rfl))⟩)
      have hlk := HT.out.look Tryz.underlying9 Tryz.underlying4 Tryz.underlying133 zeroBs (s := f.name) (by omega)
      obtain ⟨c0, c1, c2, c3, c4⟩ := HQ.out wr HX.out
      clear hf hcu hfm hok hb hn hnA ha haA ht hsn hsa
      have hnl : f.names.length ≤ 4000 := by unfold weiF at hwf; omega
      by_cases hm : f.name ∈ seenF fs i
      · rw [decide_eq_true hm] at hlk
        have HD2 := Lib.hid (HDF.out.trans (if_pos hm))
        go_wp2_with fail
        exact ⟨rfl, CkGot.bad (HRR.out.trans (by rw [HD2.out]; rfl)) HX.out⟩
      · rw [decide_eq_false hm] at hlk
        have HD2 := Lib.hid (HDF.out.trans (if_neg hm))
        obtain ⟨w2, hr2, hT2, hg2⟩ := HT.out.add Tryz.underlying9 Tryz.underlying4 Tryz.underlying133 (by omega) (s := f.name) (by omega)
        have HX2 := Lib.hid (ext_turn HX.out hg2 (by rw [HMS.out]; exact Nat.le_refl _))
        have HT2 : Hid (Tns Tryz.prog 9 4 w2 ms ((i + 1 : Nat) : Int) (fun j => decide (j ∈ seenF fs (i + 1)))) := Lib.hid (by
          rw [HSS.out]
          exact (hT2.mono (by omega)).congr (fun j => by rw [Bool.eq_iff_iff]; simp [or_comm]))
        obtain ⟨d0, d1, d2, d3, d4⟩ := HQ.out w2 HX2.out
        clear hT2 hg2 hm HDF HF HT
        go_upto_region 8 with fail
        clear hr2 hlk c0 c1 c2 c3 c4 d0 d1 d2 d3 d4
        have hmn : ms < w2.heap.size := HT2.out.lt
        have HX3 := Lib.hid (HX2.out.trans (Ext.alloc w2 (.map #[] 0)))
        have HT3 := Lib.hid (HT2.out.ext (Ext.alloc w2 (.map #[] 0)))
        have HN3 := Lib.hid ((Tns.made (P := Tryz.prog) (K := 9) (B := 4) w2).congr (S' := fun j => decide (j ∈ seenN f.names 0)) (fun j => by simp [seenN]))
        generalize w2.alloc (.map #[] 0) = w3 at *
        generalize w2.heap.size = mn at *
        obtain ⟨d0, d1, d2, d3, d4⟩ := HQ.out w3 HX3.out
        have HMN := Lib.hid hmn
        clear HX2 HT2
        go_wp2_with fail
        clear d0 d1 d2 d3 d4
        go_loopw [8, 9, 43] (fun _ _ x43 wq => ∃ j : Nat, j ≤ f.names.length ∧ x43 = .int .i64 j ∧ Hid (Ext w wq) ∧ Hid (Tns Tryz.prog 9 4 wq ms ((i + 1 : Nat) : Int) (fun j => decide (j ∈ seenF fs (i + 1)))) ∧ Hid (Tns Tryz.prog 9 4 wq mn j (fun k => decide (k ∈ seenN f.names j))) ∧ Hid (twiceN [] f.names = twiceN (seenN f.names j) (f.names.drop j))) (fun _ _ x43 _ => f.names.length - (intOf x43).toNat)
        case atStart => exact ⟨0, Nat.zero_le _, rfl, HX3, HT3, HN3, Lib.hid (by simp [seenN])⟩
        case round =>
          obtain ⟨j, hj, rfl, HY, HU, HN, HW⟩ := hrel
          by_cases hjl : j < f.names.length
          · obtain ⟨x, hx⟩ : ∃ x, f.names[j]? = some x := ⟨_, List.getElem?_eq_getElem hjl⟩
            obtain ⟨hi1, hc1, hi2, hc2⟩ := HNI.out j x hx wr HY.out
            have hx16 := hnn j x hx
            have hlk := HN.out.look Tryz.underlying9 Tryz.underlying4 Tryz.underlying133 zeroBs (s := x.1) (by omega)
            obtain ⟨d0, d1, d2, d3, d4⟩ := HQ.out wr HY.out
            have HWD := Lib.hid (HW.out.trans (twiceN_drop hx _))
            have HSN := Lib.hid (seenN_succ hx)
            clear hx
            by_cases hm : x.1 ∈ seenN f.names j
            · rw [decide_eq_true hm] at hlk
              have HW2 := Lib.hid (HWD.out.trans (if_pos hm))
              go_wp2_with fail
              exact ⟨rfl, CkGot.bad (HRR.out.trans (by rw [HD2.out, HW2.out]; rfl)) HY.out⟩
            · rw [decide_eq_false hm] at hlk
              have HW2 := Lib.hid (HWD.out.trans (if_neg hm))
              obtain ⟨w4, hr4, hT4, hg4⟩ := HN.out.add Tryz.underlying9 Tryz.underlying4 Tryz.underlying133 (by omega) (s := x.1) (by omega)
              have HY4 := Lib.hid (ext_turn HY.out hg4 (by rw [HMS.out]; exact Nat.le_of_lt HMN.out))
              have HU4 := Lib.hid (HU.out.kept hg4 (fun e => by have := Option.some.inj e; have := HMN.out; omega))
              have HN4 : Hid (Tns Tryz.prog 9 4 w4 mn ((j + 1 : Nat) : Int) (fun k => decide (k ∈ seenN f.names (j + 1)))) := Lib.hid (by
                rw [HSN.out]
                exact (hT4.mono (by omega)).congr (fun j => by rw [Bool.eq_iff_iff]; simp [or_comm]))
              have HW4 := Lib.hid (show twiceN [] f.names = twiceN (seenN f.names (j + 1)) (f.names.drop (j + 1)) by rw [HSN.out]; exact HW2.out)
              clear hT4 hg4 hm HWD HW HN HU
              go_wp2_with fail
              go_roundw
              case rel => exact ⟨j + 1, by omega, by go_num, HY4, HU4, HN4, HW4⟩
              case measure => simp [intOf]; omega
          · obtain rfl : j = f.names.length := by omega
            have HW2 := Lib.hid (show twiceN [] f.names = none from HW.out.trans (by rw [List.drop_length]; rfl))
            obtain ⟨m, hm⟩ := fit_B HBF.out
            have HC := Lib.hid (snamed_any (fs := fs) (lo := lo) (hi := hi) (pb := pb) (mb := mn) (fv := fv) (by have h1 := HB.out.2; have h2 := HMN.out; omega) HB.out.1 f.body hm (BlkOf.ext HP.out HY.out) (HFS.out.ext HY.out) (HPQ.out.ext HY.out) (sc := f.names.map (·.1)) (HN.out.congr (fun k => by rw [Bool.eq_iff_iff, decide_eq_true_iff, decide_eq_true_iff]; exact seenN_all)) (by unfold weiF at hwf; omega))
            obtain ⟨d0, d1, d2, d3, d4⟩ := HQ.out wr HY.out
            clear hm HW
            go_wp2_with fail
            refine HC.out.mono ?_
            intro e w5 h
            obtain ⟨hg5, ⟨hr, rfl, -⟩ | ⟨a, d, hr, rfl⟩⟩ := h.cases
            · have HX5 := Lib.hid (ext_turn HY.out hg5 (by rw [HMS.out]; exact Nat.le_of_lt HMN.out))
              have HU5 := Lib.hid (HU.out.kept hg5 (fun e => by have := Option.some.inj e; have := HMN.out; omega))
              have HF5 := Lib.hid (show chkF (arit fs) [] fs = chkF (arit fs) (seenF fs (i + 1)) (fs.drop (i + 1)) by rw [HSS.out, HD2.out, HW2.out, hr]; rfl)
              clear h hr hg5 HU HN HC
              go_wp2_with fail
              go_roundw
              case rel => exact ⟨i + 1, by omega, by go_num, HX5, HU5, HF5⟩
              case measure => simp [intOf]; omega
            · go_wp2_with fail
              exact ⟨rfl, CkGot.bad (HRR.out.trans (by rw [HD2.out, HW2.out, hr]; rfl)) (ext_turn HY.out hg5 (by rw [HMS.out]; exact Nat.le_of_lt HMN.out))⟩
    · obtain rfl : i = fs.length := by omega
      have HZ := Lib.hid (show R = if mainW ∈ seenF fs fs.length then none else some (len, 6) from HRR.out.trans (by rw [HF.out, List.drop_length, seenF, List.take_length]; simp [chkF]))
      have hlk : ∀ b, decide (mainW ∈ seenF fs fs.length) = b → (Instr.lookup 133 (.map (some ms)) (.string ⟨#[109, 97, 105, 110]⟩) false).run Tryz.prog wr = .ok (.bool b) wr := fun b hb => by
        rw [← hb]; exact HT.out.look Tryz.underlying9 Tryz.underlying4 Tryz.underlying133 zeroBs (s := mainW) (by decide)
      by_cases hm : mainW ∈ seenF fs fs.length
      · have hlk2 := hlk true (decide_eq_true hm)
        have HZ2 := Lib.hid (HZ.out.trans (if_pos hm))
        clear hlk hm
        go_wp2_with fail
        go_end0
        exact CkGot.ok HZ2.out HX.out
      · have hlk2 := hlk false (decide_eq_false hm)
        have HZ2 := Lib.hid (HZ.out.trans (if_neg hm))
        clear hlk hm
        go_wp2_with fail
        exact ⟨rfl, CkGot.bad HZ2.out HX.out⟩
end Go.Proofs.YtgnomhbbbcfehaaGreatDoor
