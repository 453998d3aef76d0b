/- A text's reader, the program's side: does a call fit a function: contracts. -/
import Derived.Test.YtgnomhbbbcfehaaGreatDoorZx7
namespace Go.Proofs.YtgnomhbbbcfehaaGreatDoor
open Go.RowKit Go.Att Go.Shelf
theorem slFns : SlT Tryz.prog 69 72 1 8 (.pointer none) := SlT.mk' Tryz.underlying69 (by kernel_rfl) (by decide)
theorem each_nth {α β : Type} {Q : α → β → Prop} {xs : List α} {ws : List β} (h : Each Q xs ws) : ∀ {i : Nat} {y : β}, ws[i]? = some y → ∃ x, xs[i]? = some x ∧ Q x y := by
  induction h with
  | nil => intro i y hi; cases hi
  | cons h1 _ ih =>
    intro i y hi
    cases i with
    | zero => cases hi; exact ⟨_, rfl, h1⟩
    | succ i => exact ih hi
theorem sl_cell1 {w : World} {n : Nat} {v u : Value} {cs : List Value} (h : Sl w 1 v n cs) {i : Nat} (hi : i < n) (hu : cs[i]? = some u) : w.cell? (elt v i 1) = some u := by
  have := Sl.cell h i 0 hi (by omega)
  simp [Addr.add] at this
  rw [this]; exact hu
def fsAt (fs : List Att.Fn) (lo hi : Nat) (w : World) (v : Value) : Prop := ∃ vs, w.ownsRow lo 72 1 v fs.length vs ∧ (∀ A, v.ownBlock = some A → A < hi) ∧ Each (fun v f => fnAt f lo hi w v) vs fs
section
variable {fs : List Att.Fn} {lo hi : Nat} {w w' : World} {v : Value}
theorem fsAt.kept (h : fsAt fs lo hi w v) {row : Option Nat} (hg : w.grownBy w' row) (hr : ∀ r, row = some r → r < lo ∨ hi ≤ r) : fsAt fs lo hi w' v := by
  obtain ⟨vs, h1, h2, h3⟩ := h
  refine ⟨vs, own_kept h1 hg (fun A hA e => ?_), h2, h3.imp fun x f _ h => h.kept hg hr⟩
  have := (own_blk h1 hA).1; have := h2 A hA; rcases hr A e.symm with e | e <;> omega
theorem fsAt.ext (h : fsAt fs lo hi w v) (hx : Ext w w') : fsAt fs lo hi w' v := h.kept (hx.grownBy none) (fun r e => by cases e)
theorem fsAt.nth (h : fsAt fs lo hi w v) {i : Nat} {f : Att.Fn} (hi' : fs[i]? = some f) : ∃ u, fnAt f lo hi w u ∧ ∀ W, Ext w W → W.cell? (elt v i 1) = some u := by
  obtain ⟨vs, h1, h2, h3⟩ := h
  obtain ⟨u, hu, hf⟩ := each_nth h3 hi'
  have hlt : i < fs.length := (List.getElem?_eq_some_iff.1 hi').1
  exact ⟨u, hf, fun W hx => hx.cell (sl_cell1 (Sl.of_own h1 (by omega)) hlt hu)⟩
end
section
variable {w : World}
set_option maxRecDepth 100000 in
set_option maxHeartbeats 1000000 in
theorem nfit_any {f : Att.Fn} {lo hi c q kd lo2 p m : Nat} {u kv : Value} {n : Int} {s : List UInt8} {vs : List Value} (hf : fnAt f lo hi w u) (hc : w.cell? ⟨c, 0, none⟩ = some (.pointer (some ⟨q, 0, none⟩))) (hq : BlkOf w q (pcells kd n s kv p) 152) (hk : w.ownsRow lo2 83 1 kv m vs) :
    Calls Tryz.prog 98 #[u, .pointer (some ⟨c, 0, none⟩)] w (Rd w (.bool (f.name == s && decide (f.names.length = m)))) := by
  obtain ⟨q1, nv, bv, av, rfl, -, -, hb, hn, -, -, -, -⟩ := hf
  have f0 : w.cell? ⟨q1, 0, none⟩ = some (.string ⟨f.name.toArray⟩) := hb.cell 0
  have f1 : w.cell? ⟨q1, 1, none⟩ = some nv := hb.cell 1
  have g2 : w.cell? ⟨q, 2, none⟩ = some (.string ⟨s.toArray⟩) := hq.cell 2
  have g3 : w.cell? ⟨q, 3, none⟩ = some kv := hq.cell 3
  have l1 := Sl.run_len (P := Tryz.prog) (Sl.of_own hn (by omega)) slStrs
  have l2 := Sl.run_len (P := Tryz.prog) (Sl.of_own hk (by omega)) slParts
  have HL := Lib.hid (show decide (f.names.length = m) = ((f.names.length : Int) == (m : Int)) by rw [Bool.eq_iff_iff]; simp; omega)
  clear hb hn hq hk
  generalize f.names.length = a at *
  generalize f.name = t at *
  cases he : (t == s) with
  | true =>
    go_enter Tryz.func98, Tryz.ntmps98
    go_upto_region 1 with fail
    go_quiet (fail)
    go_wp2_with fail
    go_ret
    exact Rd.more _ (ret_bool (by rw [HL.out]; simp))
  | false =>
    go_enter Tryz.func98, Tryz.ntmps98
    go_upto_region 1 with fail
    go_quiet (fail)
    go_wp2_with fail
    go_ret
    exact Rd.more _ (ret_bool (by simp))
set_option maxRecDepth 100000 in
set_option maxHeartbeats 1000000 in
theorem fidx_any {v : Value} {fs : List Att.Fn} {lo hi : Nat} (hv : fsAt fs lo hi w v) (fid : FuncId) (c1 : Value) (P : Att.Fn → Bool) (hfid : ∀ (xs : Array Value) (W : World), (callFunc fid xs).run Tryz.prog W = .ok (.enter fid xs) W)
    (hc : ∀ (W : World) (u : Value) (f : Att.Fn), Ext w W → fnAt f lo hi W u → Calls Tryz.prog fid #[u, c1] W (Rd W (.bool (P f)))) :
    Calls Tryz.prog 67 #[v, .func (.func fid) #[] #[c1]] w (RdI w fun r => decide (0 ≤ r) = fs.any P) := by
  obtain ⟨vs, h1, -, -⟩ := id hv
  have hs := Sl.of_own h1 (by omega)
  have hl := Sl.run_len (P := Tryz.prog) hs slFns
  have HIX : Hid (∀ i : Nat, i < fs.length → ∀ W : World, (Instr.indexAt 69 v (.int .i64 i)).run Tryz.prog W = .ok (.pointer (some (elt v i 1))) W) := Lib.hid (fun i hi W => Sl.run_index hs slFns i (by omega) (by omega) W)
  have hlen : fs.length ≤ 9223372036854775807 := by have := Sl.len hs; unfold maxLen at this; omega
  have HV := Lib.hid hv; have HC := Lib.hid hc
  clear hv hc h1 hs
  go_enter Tryz.func67, Tryz.ntmps67
  go_wp2
  go_loopw [5, 8] (fun _ x8 wr => ∃ i : Nat, i ≤ fs.length ∧ x8 = .int .i64 i ∧ Hid (∀ f ∈ fs.take i, P f = false) ∧ Hid (∃ m, wr = w.drewN m)) (fun _ x8 _ => fs.length - (intOf x8).toNat)
  case atStart => exact ⟨0, Nat.zero_le _, rfl, Lib.hid (fun f hf => by simp at hf), Lib.hid ⟨0, rfl⟩⟩
  case round =>
    obtain ⟨i, hi, rfl, H, HM⟩ := hrel
    obtain ⟨m, hm⟩ := HM.out
    have HX := Lib.hid (show Ext w wr from by rw [hm]; exact Ext.drewN _ _)
    clear hm
    by_cases hlt : i < fs.length
    · have hix := HIX.out i hlt
      obtain ⟨f, hf⟩ : ∃ f, fs[i]? = some f := ⟨_, List.getElem?_eq_getElem hlt⟩
      obtain ⟨u, hfa, hcu⟩ := HV.out.nth hf
      have hcell := hcu wr HX.out
      have HCI := Lib.hid (HC.out wr u f HX.out (hfa.ext HX.out))
      have HT := Lib.hid (show fs.take (i + 1) = fs.take i ++ [f] by rw [List.take_add_one, hf]; rfl)
      have HF := Lib.hid hf
      clear hfa hcu hf
      cases he : P f with
      | false =>
        have HE := Lib.hid he
        rw [he] at HCI
        clear he
        go_wp2_with fail
        refine HCI.out.mono ?_
        rintro e w' ⟨rfl, m2, rfl⟩
        go_wp2_with fail
        go_roundw
        case rel => exact ⟨i + 1, by omega, by go_num, Lib.hid (fun g hg => by
            rw [HT.out] at hg
            rcases List.mem_append.mp hg with h | h
            · exact H.out g h
            · rw [List.mem_singleton.mp h]; exact HE.out), Lib.hid (by obtain ⟨m, hm⟩ := HM.out; exact ⟨m + m2, by rw [hm]; show World.drewN (World.drewN w m) m2 = _; simp [World.drewN, Nat.add_assoc]⟩)⟩
        case measure => simp [intOf]; omega
      | true =>
        have HA := Lib.hid (show fs.any P = true from List.any_eq_true.2 ⟨f, List.mem_of_getElem? HF.out, he⟩)
        rw [he] at HCI
        clear he
        go_wp2_with fail
        refine HCI.out.mono ?_
        rintro e w' ⟨rfl, m2, rfl⟩
        go_wp2_with fail
        go_ret
        exact ⟨i, by rw [HA.out]; simp, rfl, by obtain ⟨m, hm⟩ := HM.out; exact ⟨m + m2, by rw [hm]; show World.drewN (World.drewN w m) m2 = _; simp [World.drewN, Nat.add_assoc]⟩⟩
    · obtain rfl : i = fs.length := by omega
      have HA := Lib.hid (show fs.any P = false by
        rw [List.any_eq_false]
        intro l hl
        have := H.out l (by rw [List.take_length]; exact hl)
        simp [this])
      go_wp2_with fail
      go_ret
      exact ⟨-1, by rw [HA.out]; rfl, rfl, HM.out⟩
set_option maxRecDepth 100000 in
theorem fcont_any {v : Value} {fs : List Att.Fn} {lo hi : Nat} (hv : fsAt fs lo hi w v) (fid : FuncId) (c1 : Value) (P : Att.Fn → Bool) (hfid : ∀ (xs : Array Value) (W : World), (callFunc fid xs).run Tryz.prog W = .ok (.enter fid xs) W)
    (hc : ∀ (W : World) (u : Value) (f : Att.Fn), Ext w W → fnAt f lo hi W u → Calls Tryz.prog fid #[u, c1] W (Rd W (.bool (P f)))) :
    Calls Tryz.prog 99 #[v, .func (.func fid) #[] #[c1]] w (Rd w (.bool (fs.any P))) := by
  have CI := Lib.hid (fidx_any hv fid c1 P hfid hc)
  clear hv hc
  go_enter Tryz.func99, Tryz.ntmps99
  go_wp2_with fail
  refine CI.out.mono ?_
  rintro e w' ⟨r, hr, rfl, m, rfl⟩
  have HR := Lib.hid hr
  clear hr
  go_wp2_with fail
  go_ret
  exact .more _ (ret_bool HR.out)
end
end Go.Proofs.YtgnomhbbbcfehaaGreatDoor
