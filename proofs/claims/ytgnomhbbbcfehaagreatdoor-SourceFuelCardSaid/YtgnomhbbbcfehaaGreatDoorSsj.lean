/- A text's reader, the program's side: a part's names: contract. -/
import Derived.Test.YtgnomhbbbcfehaaGreatDoorSsi
import Derived.Test.YtgnomhbbbcfehaaGreatDoorZx3
namespace Go.Att
theorem weiT_mk (k : Nat) (n : Int) (s : List UInt8) (ks : List Tr) (p : Nat) : weiT (.mk k n s ks p) = 1 + (ks.map weiT).sum := by unfold weiT; rw [foldT_mk]
def firstT (fs : List (List UInt8 × Nat)) (sc : List (List UInt8)) : List Tr → Option (Nat × Nat)
  | [] => none
  | t :: r => (chkT fs t sc).or (firstT fs sc r)
theorem foldl_first (fs : List (List UInt8 × Nat)) (sc : List (List UInt8)) (ks : List Tr) (r : Option (Nat × Nat)) : (ks.map (chkT fs)).foldl (fun r c => r.or (c sc)) r = r.or (firstT fs sc ks) := by
  induction ks generalizing r with
  | nil => cases r <;> rfl
  | cons t ks ih => rw [List.map_cons, List.foldl_cons, ih, firstT]; cases r <;> rfl
theorem chkT_mk (fs : List (List UInt8 × Nat)) (k : Nat) (n : Int) (s : List UInt8) (ks : List Tr) (p : Nat) (sc : List (List UInt8)) : chkT fs (.mk k n s ks p) sc =
    if k = 1 ∧ s ∉ sc then some (p, 6) else if k = 11 ∧ (s, ks.length) ∉ fs then some (p, 6)
    else if k = 8 then if s ∈ sc then some (p, 4) else (((ks.map (chkT fs)).getD 0 fun _ => none) sc).or (((ks.map (chkT fs)).getD 1 fun _ => none) (s :: sc))
    else firstT fs sc ks := by
  have h : chkT fs (.mk k n s ks p) sc = if k = 1 ∧ s ∉ sc then some (p, 6) else if k = 11 ∧ (s, (ks.map (chkT fs)).length) ∉ fs then some (p, 6)
    else if k = 8 then if s ∈ sc then some (p, 4) else (((ks.map (chkT fs)).getD 0 fun _ => none) sc).or (((ks.map (chkT fs)).getD 1 fun _ => none) (s :: sc))
    else (ks.map (chkT fs)).foldl (fun r c => r.or (c sc)) none := by unfold chkT; rw [foldT_mk]
  rw [h, foldl_first, List.length_map]; rfl
theorem arit_any (fs : List Fn) (s : List UInt8) (m : Nat) : fs.any (fun f => f.name == s && decide (f.names.length = m)) = decide ((s, m) ∈ arit fs) := by
  rw [Bool.eq_iff_iff, List.any_eq_true, decide_eq_true_iff]
  unfold arit
  rw [List.mem_map]
  constructor
  · rintro ⟨f, h1, h2⟩
    simp only [Bool.and_eq_true, beq_iff_eq, decide_eq_true_eq] at h2
    exact ⟨f, h1, by rw [h2.1, h2.2]⟩
  · rintro ⟨f, h1, h2⟩
    injection h2 with h2 h3
    exact ⟨f, h1, by simp [h2, h3]⟩
theorem fit_B {k l : Nat} {t : Tr} (h : Fit k l t) : ∃ m, FitB m t := by cases h with | here _ h => exact ⟨_, h⟩ | inn _ h => exact ⟨_, h⟩
theorem fitB_node {k kd p : Nat} {n : Int} {s : List UInt8} {ks : List Tr} (hf : FitB k (.mk kd n s ks p)) : s.length ≤ 16 ∧ (kd = 8 → ∃ a b, ks = [a, b]) ∧ ∀ t ∈ ks, ∃ m, FitB m t := by
  cases hf with
  | num => exact ⟨by simp, by omega, fun t ht => by cases ht⟩
  | name h => exact ⟨h.len, by omega, fun t ht => by cases ht⟩
  | bin hk ha hb => exact ⟨by simp, by omega, fun t ht => by simp at ht; rcases ht with rfl | rfl <;> first | exact fit_B ha | exact fit_B hb⟩
  | same ha hb => exact ⟨by simp, by omega, fun t ht => by simp at ht; rcases ht with rfl | rfl <;> first | exact fit_B ha | exact fit_B hb⟩
  | neg ha => exact ⟨by simp, by omega, fun t ht => by simp at ht; subst ht; exact fit_B ha⟩
  | letB h ha hb => exact ⟨h.len, fun _ => ⟨_, _, rfl⟩, fun t ht => by simp at ht; rcases ht with rfl | rfl <;> first | exact fit_B ha | exact fit_B hb⟩
  | need ha hb hc => exact ⟨by simp, by omega, fun t ht => by simp at ht; rcases ht with rfl | rfl | rfl <;> first | exact fit_B ha | exact fit_B hb | exact fit_B hc⟩
  | ifB ha hb hc => exact ⟨by simp, by omega, fun t ht => by simp at ht; rcases ht with rfl | rfl | rfl <;> first | exact fit_B ha | exact fit_B hb | exact fit_B hc⟩
  | call h hs => exact ⟨h.len, by omega, fun t ht => fit_B (hs t ht)⟩
end Go.Att
namespace Go.Proofs.YtgnomhbbbcfehaaGreatDoor
open Go.RowKit Go.Att Go.Shelf
def NmGot (w : World) (mb : Nat) (n : Int) (sc : List (List UInt8)) (r : Option (Nat × Nat)) (e : Ending) (w' : World) : Prop :=
  w.grownBy w' (some mb) ∧ match r with
  | none => e = .returned (.tuple #[]) ∧ Tns Tryz.prog 9 4 w' mb n (fun j => decide (j ∈ sc))
  | some (a, k) => e = .panicked [{ v := .iface 62 (.agg #[.int .i64 a, .int .i64 k]), recovered := false }]
section
variable {w w' : World} {mb : Nat} {n : Int} {sc : List (List UInt8)} {r : Option (Nat × Nat)} {e : Ending}
theorem NmGot.ok (hr : r = none) (hg : w.grownBy w' (some mb)) (hT : Tns Tryz.prog 9 4 w' mb n (fun j => decide (j ∈ sc))) : NmGot w mb n sc r (.returned (.tuple #[])) w' := by subst hr; exact ⟨hg, rfl, hT⟩
theorem NmGot.bad {a k : Nat} (hr : r = some (a, k)) (hg : w.grownBy w' (some mb)) : NmGot w mb n sc r (.panicked [{ v := .iface 62 (.agg #[.int .i64 a, .int .i64 k]), recovered := false }]) w' := by subst hr; exact ⟨hg, rfl⟩
theorem NmGot.cases (h : NmGot w mb n sc r e w') : w.grownBy w' (some mb) ∧ ((r = none ∧ e = .returned (.tuple #[]) ∧ Tns Tryz.prog 9 4 w' mb n (fun j => decide (j ∈ sc))) ∨ ∃ a k, r = some (a, k) ∧ e = .panicked [{ v := .iface 62 (.agg #[.int .i64 a, .int .i64 k]), recovered := false }]) := by
  obtain ⟨hg, h⟩ := h
  refine ⟨hg, ?_⟩
  cases r with
  | none => exact .inl ⟨rfl, h⟩
  | some x => exact .inr ⟨x.1, x.2, rfl, h⟩
end
theorem zeroBs (w : World) : (zeroValue 4).run Tryz.prog w = .ok (.bool false) w := by kernel_rfl
theorem nfit_enter (xs : Array Value) (W : World) : (callFunc 98 xs).run Tryz.prog W = .ok (.enter 98 xs) W := by kernel_rfl
theorem sums_step {ks : List Tr} {j : Nat} {t : Tr} (h : ks[j]? = some t) : ((ks.take (j + 1)).map weiT).sum = ((ks.take j).map weiT).sum + weiT t := by
  rw [List.take_add_one, h]; simp
theorem sums_le (ks : List Tr) (j : Nat) : ((ks.take j).map weiT).sum ≤ (ks.map weiT).sum := by
  conv => rhs; rw [← List.take_append_drop j ks]
  rw [List.map_append, List.sum_append]; omega
theorem drop_first {ks : List Tr} {j : Nat} {t : Tr} (h : ks[j]? = some t) (fs : List (List UInt8 × Nat)) (sc : List (List UInt8)) : firstT fs sc (ks.drop j) = (chkT fs t sc).or (firstT fs sc (ks.drop (j + 1))) := by
  obtain ⟨hl, rfl⟩ := List.getElem?_eq_some_iff.1 h
  rw [List.drop_eq_getElem_cons hl, firstT]
set_option maxRecDepth 100000 in
set_option maxHeartbeats 8000000 in
theorem snamed_any {fs : List Att.Fn} {lo hi pb mb : Nat} {fv : Value} (hmb : hi ≤ mb) (hpb : pb < hi) (t : Tr) : ∀ {k : Nat}, FitB k t → ∀ {w : World} {v : Value} {sc : List (List UInt8)} {n : Int}, BlkOf w pb [fv] 71 → fsAt fs lo hi w fv → trAt 152 83 t lo hi w v → Tns Tryz.prog 9 4 w mb n (fun j => decide (j ∈ sc)) → n + weiT t ≤ 4000000 →
    Calls Tryz.prog 57 #[.pointer (some ⟨pb, 0, none⟩), v, .map (some mb)] w (NmGot w mb (n + weiT t) sc (chkT (arit fs) t sc)) := by
  induction t using Tr.ind with
  | h kd num s ks p ih =>
    intro k hf w v sc n hp hfs ht hT hn
    obtain ⟨h16, h8, hkf⟩ := fitB_node hf
    obtain ⟨q, kv, vs, rfl, hlq, hqh, hb, ho, hkA, he⟩ := trAt_mk.mp ht
    have HK : Hid (∀ (i : Nat) (t : Tr), ks[i]? = some t → ∃ u, vs[i]? = some u ∧ ∀ (W : World) (sc' : List (List UInt8)) (m : Int), w.grownBy W (some mb) → Tns Tryz.prog 9 4 W mb m (fun j => decide (j ∈ sc')) → m + weiT t ≤ 4000000 → Calls Tryz.prog 57 #[.pointer (some ⟨pb, 0, none⟩), u, .map (some mb)] W (NmGot W mb (m + weiT t) sc' (chkT (arit fs) t sc'))) := Lib.hid (fun i t hit => by
      obtain ⟨u, hu, hx⟩ := each_nth he hit
      obtain ⟨m, hm⟩ := hkf t (List.mem_of_getElem? hit)
      have hr : ∀ r, some mb = some r → r < lo ∨ hi ≤ r := fun r e => by cases e; exact .inr hmb
      exact ⟨u, hu, fun W sc' m hg hT hb => ih t (List.mem_of_getElem? hit) hm (hp.grown hg (by simp; omega)) (hfs.kept hg hr) (hx.kept hg hr) hT hb⟩)
    have hs := Sl.of_own ho (by omega)
    have hl := Sl.run_len (P := Tryz.prog) hs slParts
    have hlen : ks.length ≤ 9223372036854775807 := by have := Sl.len hs; unfold maxLen at this; omega
    have HIX : Hid (∀ i : Nat, i < ks.length → ∀ W : World, (Instr.indexAt 150 kv (.int .i64 i)).run Tryz.prog W = .ok (.pointer (some (elt kv i 1))) W) := Lib.hid (fun i hi W => Sl.run_index hs slParts i (by omega) (by omega) W)
    have HIC : Hid (∀ (i : Nat) (u : Value), vs[i]? = some u → ∀ W, w.grownBy W (some mb) → W.cell? (elt kv i 1) = some u) := Lib.hid (fun i u hu W hg => by
      have ho' := own_kept ho hg (fun A hA e => by have := hkA A hA; have := Option.some.inj e; omega)
      have hlt : i < ks.length := by have := (List.getElem?_eq_some_iff.1 hu).1; have := he.len; omega
      exact sl_cell1 (Sl.of_own ho' (by omega)) hlt hu)
    have hmw := hT.lt
    have e1 := Ext.alloc w (.cells #[.pointer (some ⟨q, 0, none⟩)] 83)
    have hbx := BlkOf.new w [.pointer (some ⟨q, 0, none⟩)] 83
    have HG1 := Lib.hid (e1.grownBy (some mb))
    have HT1 := Lib.hid (hT.ext e1)
    have hb1 := hb.ext e1
    have hp1 := hp.ext e1
    have HFS := Lib.hid (hfs.ext e1)
    have HO := Lib.hid (own_kept ho (e1.grownBy none) (fun A hA e => by cases e))
    have hcm : w.heap.size ≠ mb := by omega
    have HB := Lib.hid hb1
    generalize hR : chkT (arit fs) (.mk kd num s ks p) sc = R
    have HRR := Lib.hid (hR.symm.trans (chkT_mk _ _ _ _ _ _ _))
    have hwt := weiT_mk kd num s ks p
    generalize weiT (.mk kd num s ks p) = wt at *
    clear hR hb hp hfs ht hT ih hf hkf hs ho hkA he e1
    go_enter Tryz.func57, Tryz.ntmps57
    go_upto_region 1 with fail
    generalize w.alloc (.cells #[.pointer (some ⟨q, 0, none⟩)] 83) = w1 at *
    obtain ⟨c, hc⟩ : ∃ c, w.heap.size = c := ⟨_, rfl⟩
    rw [hc] at hbx hcm ⊢
    have HN : Hid (∀ W, w1.grownBy W (some mb) → W.cell? ⟨c, 0, none⟩ = some (.pointer (some ⟨q, 0, none⟩)) ∧ W.cell? ⟨q, 0, none⟩ = some (.int .i64 kd) ∧ W.cell? ⟨q, 2, none⟩ = some (.string ⟨s.toArray⟩) ∧ W.cell? ⟨q, 3, none⟩ = some kv ∧ W.cell? ⟨q, 4, none⟩ = some (.int .i64 p) ∧ W.cell? ⟨pb, 0, none⟩ = some fv) := Lib.hid (fun W hg => by
      have h1 := hbx.grown hg (by simpa using hcm)
      have h2 := hb1.grown hg (by simp; omega)
      have h3 := hp1.grown hg (by simp; omega)
      exact ⟨h1.cell 0, h2.cell 0, h2.cell 2, h2.cell 3, h2.cell 4, h3.cell 0⟩)
    have HC := Lib.hid hc
    have HMB := Lib.hid (And.intro hmb (And.intro hmw hcm))
    clear hbx hb1 hp1 hmb hmw hcm
    obtain ⟨d0, q0, q2, q3, q4, p0⟩ := HN.out w1 (World.grownBy.refl _ _)
    have c1 : ((kd : Int) == 1) = decide (kd = 1) := by rw [Bool.eq_iff_iff]; simp; omega
    have c11 : ((kd : Int) == 11) = decide (kd = 11) := by rw [Bool.eq_iff_iff]; simp; omega
    have c8 : ((kd : Int) == 8) = decide (kd = 8) := by rw [Bool.eq_iff_iff]; simp; omega
    by_cases k1 : kd = 1
    · rw [decide_eq_true k1] at c1
      have hlk := HT1.out.look Tryz.underlying9 Tryz.underlying4 Tryz.underlying133 zeroBs (s := s) (by omega)
      by_cases hm : s ∈ sc
      · rw [decide_eq_true hm] at hlk
        have HRF := Lib.hid (show R = firstT (arit fs) sc (ks.drop 0) from HRR.out.trans (by rw [if_neg (fun h => h.2 hm), if_neg (by omega), if_neg (by omega), List.drop_zero]))
        have HGW := Lib.hid (World.grownBy.refl w1 (some mb)); have HTW := HT1
        clear hm
        go_upto_region 16 with fail
        clear hlk q0 q2 q4 p0 c11 c8
        go_wp2_with fail
        go_loopw [8, 91] (fun _ x91 wr => ∃ j : Nat, j ≤ ks.length ∧ x91 = .int .i64 j ∧ Hid (w1.grownBy wr (some mb)) ∧ Hid (Tns Tryz.prog 9 4 wr mb (n + (((ks.take j).map weiT).sum : Nat)) (fun j => decide (j ∈ sc))) ∧ Hid (R = firstT (arit fs) sc (ks.drop j))) (fun _ x91 _ => ks.length - (intOf x91).toNat)
        case atStart => exact ⟨0, Nat.zero_le _, rfl, HGW, Lib.hid (by simpa using HTW.out), HRF⟩
        case round =>
          obtain ⟨j, hj, rfl, HG, HT, HF⟩ := hrel
          by_cases hlt : j < ks.length
          · have hix := HIX.out j hlt
            obtain ⟨t, ht⟩ : ∃ t, ks[j]? = some t := ⟨_, List.getElem?_eq_getElem hlt⟩
            obtain ⟨u, hu, hC⟩ := HK.out j t ht
            have hcell := HIC.out j u hu wr (grown_one HG1.out HG.out)
            have hsle := sums_le ks (j + 1)
            have hst := sums_step ht
            have HCC := Lib.hid (hC wr sc _ (grown_one HG1.out HG.out) HT.out (by omega))
            have HDF := Lib.hid (HF.out.trans (drop_first ht (arit fs) sc))
            have HST := Lib.hid hst
            clear hC hu ht hst
            go_wp2_with fail
            refine HCC.out.mono ?_
            intro e w' h
            obtain ⟨hg, ⟨hr, rfl, hT'⟩ | ⟨a, d, hr, rfl⟩⟩ := h.cases
            · have HT2 := Lib.hid hT'; have HR2 := Lib.hid hr; have HG2 := Lib.hid hg
              clear h hT' hr hg
              go_wp2_with fail
              go_roundw
              case rel => exact ⟨j + 1, by omega, by go_num, Lib.hid (grown_one HG.out HG2.out), Lib.hid (HT2.out.mono (by rw [HST.out]; omega)), Lib.hid (HDF.out.trans (by rw [HR2.out]; rfl))⟩
              case measure => simp [intOf]; omega
            · go_wp2_with fail
              exact ⟨rfl, NmGot.bad (HDF.out.trans (by rw [hr]; rfl)) (grown_one HG1.out (grown_one HG.out hg))⟩
          · obtain rfl : j = ks.length := by omega
            have HF2 := Lib.hid (HF.out.trans (by rw [List.drop_length]))
            rw [List.take_length] at HT
            go_wp2_with fail
            go_end0
            exact NmGot.ok HF2.out (grown_one HG1.out HG.out) (HT.out.mono (by omega))
      · rw [decide_eq_false hm] at hlk
        go_wp2_with fail
        exact ⟨rfl, NmGot.bad (HRR.out.trans (if_pos ⟨k1, hm⟩)) HG1.out⟩
    rw [decide_eq_false k1] at c1
    by_cases k11 : kd = 11
    · rw [decide_eq_true k11] at c11
      have HCF := Lib.hid (fcont_any HFS.out 98 (.pointer (some ⟨c, 0, none⟩)) (fun f => f.name == s && decide (f.names.length = ks.length)) nfit_enter (fun W u f hx hf => nfit_any hf (hx.cell d0) (HB.out.ext hx) (own_kept HO.out (hx.grownBy none) (fun A hA e => by cases e))))
      rw [arit_any] at HCF
      by_cases hm : (s, ks.length) ∈ arit fs
      · rw [decide_eq_true hm] at HCF
        have HRF := Lib.hid (show R = firstT (arit fs) sc (ks.drop 0) from HRR.out.trans (by rw [if_neg (by omega), if_neg (fun h => h.2 hm), if_neg (by omega), List.drop_zero]))
        clear hm
        go_wp2_with fail
        refine HCF.out.mono ?_
        rintro e w' ⟨rfl, m, rfl⟩
        obtain ⟨d1, -, -, r3, -, -⟩ := HN.out (w1.drewN m) ((Ext.drewN w1 m).grownBy _)
        have HGW := Lib.hid ((Ext.drewN w1 m).grownBy (some mb)); have HTW := Lib.hid (HT1.out.ext (Ext.drewN w1 m))
        go_upto_region 16 with fail
        generalize w1.drewN m = w2 at *
        clear d0 q0 q2 q3 q4 p0 c8
        go_wp2_with fail
        go_loopw [8, 91] (fun _ x91 wr => ∃ j : Nat, j ≤ ks.length ∧ x91 = .int .i64 j ∧ Hid (w1.grownBy wr (some mb)) ∧ Hid (Tns Tryz.prog 9 4 wr mb (n + (((ks.take j).map weiT).sum : Nat)) (fun j => decide (j ∈ sc))) ∧ Hid (R = firstT (arit fs) sc (ks.drop j))) (fun _ x91 _ => ks.length - (intOf x91).toNat)
        case atStart => exact ⟨0, Nat.zero_le _, rfl, HGW, Lib.hid (by simpa using HTW.out), HRF⟩
        case round =>
          obtain ⟨j, hj, rfl, HG, HT, HF⟩ := hrel
          by_cases hlt : j < ks.length
          · have hix := HIX.out j hlt
            obtain ⟨t, ht⟩ : ∃ t, ks[j]? = some t := ⟨_, List.getElem?_eq_getElem hlt⟩
            obtain ⟨u, hu, hC⟩ := HK.out j t ht
            have hcell := HIC.out j u hu wr (grown_one HG1.out HG.out)
            have hsle := sums_le ks (j + 1)
            have hst := sums_step ht
            have HCC := Lib.hid (hC wr sc _ (grown_one HG1.out HG.out) HT.out (by omega))
            have HDF := Lib.hid (HF.out.trans (drop_first ht (arit fs) sc))
            have HST := Lib.hid hst
            clear hC hu ht hst
            go_wp2_with fail
            refine HCC.out.mono ?_
            intro e w' h
            obtain ⟨hg, ⟨hr, rfl, hT'⟩ | ⟨a, d, hr, rfl⟩⟩ := h.cases
            · have HT2 := Lib.hid hT'; have HR2 := Lib.hid hr; have HG2 := Lib.hid hg
              clear h hT' hr hg
              go_wp2_with fail
              go_roundw
              case rel => exact ⟨j + 1, by omega, by go_num, Lib.hid (grown_one HG.out HG2.out), Lib.hid (HT2.out.mono (by rw [HST.out]; omega)), Lib.hid (HDF.out.trans (by rw [HR2.out]; rfl))⟩
              case measure => simp [intOf]; omega
            · go_wp2_with fail
              exact ⟨rfl, NmGot.bad (HDF.out.trans (by rw [hr]; rfl)) (grown_one HG1.out (grown_one HG.out hg))⟩
          · obtain rfl : j = ks.length := by omega
            have HF2 := Lib.hid (HF.out.trans (by rw [List.drop_length]))
            rw [List.take_length] at HT
            go_wp2_with fail
            go_end0
            exact NmGot.ok HF2.out (grown_one HG1.out HG.out) (HT.out.mono (by omega))
      · rw [decide_eq_false hm] at HCF
        go_wp2_with fail
        refine HCF.out.mono ?_
        rintro e w' ⟨rfl, m, rfl⟩
        obtain ⟨d1, -, -, -, r4, -⟩ := HN.out (w1.drewN m) ((Ext.drewN w1 m).grownBy _)
        go_wp2_with fail
        exact ⟨rfl, NmGot.bad (HRR.out.trans (by rw [if_neg (by omega), if_pos ⟨k11, hm⟩])) (grown_one HG1.out ((Ext.drewN w1 m).grownBy _))⟩
    rw [decide_eq_false k11] at c11
    by_cases k8 : kd = 8
    · rw [decide_eq_true k8] at c8
      obtain ⟨ta, tb, rfl⟩ := h8 k8
      have hlk := HT1.out.look Tryz.underlying9 Tryz.underlying4 Tryz.underlying133 zeroBs (s := s) (by omega)
      by_cases hm : s ∈ sc
      · rw [decide_eq_true hm] at hlk
        go_wp2_with fail
        exact ⟨rfl, NmGot.bad (HRR.out.trans (by rw [if_neg (by omega), if_neg (by omega), if_pos k8, if_pos hm])) HG1.out⟩
      · rw [decide_eq_false hm] at hlk
        have HM := Lib.hid hm
        have HRF := Lib.hid (show R = (chkT (arit fs) ta sc).or (chkT (arit fs) tb (s :: sc)) from HRR.out.trans (by rw [if_neg (by omega), if_neg (by omega), if_pos k8, if_neg hm]; rfl))
        have hwt2 : wt = 1 + (weiT ta + weiT tb) := by rw [hwt]; simp
        obtain ⟨ua, hua, hCa⟩ := HK.out 0 ta rfl
        obtain ⟨ub, hub, hCb⟩ := HK.out 1 tb rfl
        have HUB := Lib.hid hub; have HCB := Lib.hid hCb
        have hi0 : ∀ W : World, (Instr.indexAt 150 kv (.int .i64 0)).run Tryz.prog W = .ok (.pointer (some (elt kv 0 1))) W := HIX.out 0 (by simp)
        have hca := HIC.out 0 ua hua w1 HG1.out
        have HCC := Lib.hid (hCa w1 sc _ HG1.out HT1.out (by omega))
        clear hm hwt hua hub hCa hCb HRR
        go_wp2_with fail
        refine HCC.out.mono ?_
        intro e w2 h
        obtain ⟨hg, ⟨hr, rfl, hT⟩ | ⟨a, d, hr, rfl⟩⟩ := h.cases
        · have HR2 := Lib.hid (show R = chkT (arit fs) tb (s :: sc) from HRF.out.trans (by rw [hr]; rfl))
          have HG2 := Lib.hid hg; have HT2 := Lib.hid hT
          obtain ⟨w3, hr3, hT3, hg3⟩ := hT.add Tryz.underlying9 Tryz.underlying4 Tryz.underlying133 (by omega) (s := s) (by omega)
          obtain ⟨d2, x0, x2, x3, x4, x5⟩ := HN.out w2 hg
          have HT3 := Lib.hid (hT3.congr (S' := fun j => decide (j ∈ s :: sc)) (fun j => by rw [Bool.eq_iff_iff]; simp [or_comm]))
          have HG3 := Lib.hid (grown_one hg hg3)
          clear h hr hT hT3 hg3 hlk hca HRF HCC hi0 d0 q0 q2 q3 q4 p0
          go_upto_region 14 with fail
          clear hr3 d2 x0 x2 x3 x4 x5
          obtain ⟨d3, y0, y2, y3, y4, y5⟩ := HN.out w3 HG3.out
          have hi1 : ∀ W : World, (Instr.indexAt 150 kv (.int .i64 1)).run Tryz.prog W = .ok (.pointer (some (elt kv 1 1))) W := HIX.out 1 (by simp)
          have hcb := HIC.out 1 ub HUB.out w3 (grown_one HG1.out HG3.out)
          have HCC := Lib.hid (HCB.out w3 (s :: sc) _ (grown_one HG1.out HG3.out) HT3.out (by omega))
          go_wp2_with fail
          refine HCC.out.mono ?_
          intro e w4 h
          obtain ⟨hg4, ⟨hr, rfl, hT⟩ | ⟨a, d, hr, rfl⟩⟩ := h.cases
          · have HR4 := Lib.hid (HR2.out.trans hr)
            obtain ⟨w5, hr5, hT5, hg5⟩ := hT.drop Tryz.underlying9 Tryz.underlying4 Tryz.underlying133 (s := s) (by omega) 0
            obtain ⟨d4, z0, z2, z3, z4, z5⟩ := HN.out w4 (grown_one HG3.out hg4)
            have HT5 := Lib.hid (hT5.congr (S' := fun j => decide (j ∈ sc)) (fun j => by
              rw [Bool.eq_iff_iff]
              simp only [Bool.and_eq_true, decide_eq_true_eq, Bool.not_eq_true', decide_eq_false_iff_not, List.mem_cons]
              exact ⟨fun h => h.1.resolve_left h.2, fun h => ⟨.inr h, fun e => HM.out (e ▸ h)⟩⟩))
            have HG5 := Lib.hid (grown_one HG1.out (grown_one HG3.out (grown_one hg4 hg5)))
            clear h hr hT hT5 hg4 hg5 hcb HCC hi1 d3 y0 y2 y3 y4 y5
            go_wp2_with fail
            go_end0
            exact NmGot.ok HR4.out HG5.out (HT5.out.mono (by omega))
          · go_wp2_with fail
            exact ⟨rfl, NmGot.bad (HR2.out.trans hr) (grown_one HG1.out (grown_one HG3.out hg4))⟩
        · go_wp2_with fail
          exact ⟨rfl, NmGot.bad (HRF.out.trans (by rw [hr]; rfl)) (grown_one HG1.out hg)⟩
    rw [decide_eq_false k8] at c8
    have HRF := Lib.hid (show R = firstT (arit fs) sc (ks.drop 0) from HRR.out.trans (by rw [if_neg (by omega), if_neg (by omega), if_neg k8, List.drop_zero]))
    have HGW := Lib.hid (World.grownBy.refl w1 (some mb)); have HTW := HT1
    go_upto_region 16 with fail
    clear q0 q2 q4 p0 c1 c11 c8
    go_wp2_with fail
    go_loopw [8, 91] (fun _ x91 wr => ∃ j : Nat, j ≤ ks.length ∧ x91 = .int .i64 j ∧ Hid (w1.grownBy wr (some mb)) ∧ Hid (Tns Tryz.prog 9 4 wr mb (n + (((ks.take j).map weiT).sum : Nat)) (fun j => decide (j ∈ sc))) ∧ Hid (R = firstT (arit fs) sc (ks.drop j))) (fun _ x91 _ => ks.length - (intOf x91).toNat)
    case atStart => exact ⟨0, Nat.zero_le _, rfl, HGW, Lib.hid (by simpa using HTW.out), HRF⟩
    case round =>
      obtain ⟨j, hj, rfl, HG, HT, HF⟩ := hrel
      by_cases hlt : j < ks.length
      · have hix := HIX.out j hlt
        obtain ⟨t, ht⟩ : ∃ t, ks[j]? = some t := ⟨_, List.getElem?_eq_getElem hlt⟩
        obtain ⟨u, hu, hC⟩ := HK.out j t ht
        have hcell := HIC.out j u hu wr (grown_one HG1.out HG.out)
        have hsle := sums_le ks (j + 1)
        have hst := sums_step ht
        have HCC := Lib.hid (hC wr sc _ (grown_one HG1.out HG.out) HT.out (by omega))
        have HDF := Lib.hid (HF.out.trans (drop_first ht (arit fs) sc))
        have HST := Lib.hid hst
        clear hC hu ht hst
        go_wp2_with fail
        refine HCC.out.mono ?_
        intro e w' h
        obtain ⟨hg, ⟨hr, rfl, hT'⟩ | ⟨a, d, hr, rfl⟩⟩ := h.cases
        · have HT2 := Lib.hid hT'; have HR2 := Lib.hid hr; have HG2 := Lib.hid hg
          clear h hT' hr hg
          go_wp2_with fail
          go_roundw
          case rel => exact ⟨j + 1, by omega, by go_num, Lib.hid (grown_one HG.out HG2.out), Lib.hid (HT2.out.mono (by rw [HST.out]; omega)), Lib.hid (HDF.out.trans (by rw [HR2.out]; rfl))⟩
          case measure => simp [intOf]; omega
        · go_wp2_with fail
          exact ⟨rfl, NmGot.bad (HDF.out.trans (by rw [hr]; rfl)) (grown_one HG1.out (grown_one HG.out hg))⟩
      · obtain rfl : j = ks.length := by omega
        have HF2 := Lib.hid (HF.out.trans (by rw [List.drop_length]))
        rw [List.take_length] at HT
        go_wp2_with fail
        go_end0
        exact NmGot.ok HF2.out (grown_one HG1.out HG.out) (HT.out.mono (by omega))
end Go.Proofs.YtgnomhbbbcfehaaGreatDoor
