/- A part as text, the program's side: a number, a name, a part with a minus, a call; strings.Join with a comma: contracts. Programs as text, in plain words: how long a part is, written. No program in sight. A part as text, the program's side: a call. Printed by wip/mktv.py. A part as text, the program's side: any part: contract. -/
import Derived.Test.YtejkepihicphlaaGreatDoorSsp
import Derived.Test.YtejkepihicphlaaGreatDoorSsj
import Derived.Lib.ItoaLen
import Derived.Test.YtejkepihicphlaaGreatDoorSsq
import Derived.Test.YtejkepihicphlaaGreatDoorSsr
import Derived.Test.YtejkepihicphlaaGreatDoorSst
import Derived.Test.YtejkepihicphlaaGreatDoorSsu
section
namespace Go.Att
theorem comma_join (L : List (List UInt8)) : Lib.join L [44, 32] = commaT L := by
  induction L with
  | nil => rfl
  | cons a r ih =>
    cases r with
    | nil => rw [Lib.join_one]; rfl
    | cons b r =>
      rw [Lib.join_cons, commaT, ← ih, Lib.join_cons]
      simp [Lib.joinTail]
end Go.Att
namespace Go.Proofs.YtejkepihicphlaaGreatDoor
open Go.RowKit Go.Att Go.Shelf
theorem cjoin_any {v : Value} {L : List (List UInt8)} {w : World} (h : Strs w v L) (hN : L.length ≤ 1000000) (hl : (commaT L).length ≤ 100000000) :
    Calls Tryz.prog 28 #[v, .string ⟨#[44, 32]⟩] w fun e w' => e = .returned (.string ⟨(commaT L).toArray⟩) ∧ Ext w w' := by
  obtain ⟨ao, cap, rfl, h2, h3, h4, h5⟩ := h
  rcases Nat.eq_zero_or_pos L.length with h0 | hn
  · obtain rfl := List.eq_nil_of_length_eq_zero h0
    exact (Any.strings_Join_none Tryz.laysJoin laysBuild ao cap ⟨#[44, 32]⟩ w).mono fun e w' ⟨he, hw⟩ => ⟨he, by rw [hw]; exact Ext.refl _⟩
  obtain ⟨b, off, rfl, hc0⟩ := h5 0 (by rw [List.length_map]; omega)
  have hcells : ∀ (j : Nat) x, (L.map fun s => ByteArray.mk s.toArray)[j]? = some x → w.cell? ⟨b, off + j, none⟩ = some (.string x) := by
    intro j x hx
    rw [List.getElem?_map] at hx
    cases hj : L[j]? with
    | none => rw [hj] at hx; cases hx
    | some s =>
      rw [hj] at hx
      obtain rfl := Option.some.inj hx
      obtain ⟨hjl, hje⟩ := List.getElem?_eq_some_iff.1 hj
      obtain ⟨b', off', he, hcj⟩ := h5 j (by rw [List.length_map]; exact hjl)
      obtain ⟨rfl, rfl⟩ : b' = b ∧ off' = off := by simp at he; exact ⟨he.1.symm, he.2.symm⟩
      rw [hcj, List.getElem_map, hje]
  have hm : ((L.map fun s => ByteArray.mk s.toArray).map (·.data.toList)) = L := by
    rw [List.map_map]
    conv => rhs; rw [← List.map_id L]
    apply List.map_congr_left
    intro s _
    simp
  have hs : (ByteArray.mk #[44, 32]).data.toList = [44, 32] := rfl
  have hln : (L.map fun s => ByteArray.mk s.toArray).length = L.length := by simp
  have hb : b < w.heap.size := World.block_lt_of_cell? w _ (by have := hc0; simpa using this)
  have := Any.strings_Join Tryz.laysJoin laysBuild b off cap (L.map fun s => ByteArray.mk s.toArray) ⟨#[44, 32]⟩ w hcells hb (by rw [hln]; omega) (by rw [hln]; exact h3) (by rw [hm, hs, comma_join]; omega)
  rw [hm, hs, hln, comma_join] at this
  exact this
section
variable {w : World} {q p : Nat} {n : Int} {s : List UInt8} {kv : Value}
set_option maxRecDepth 100000 in
set_option maxHeartbeats 4000000 in
theorem tx_neg {u0 : Value} {t0 : Tr} {least : Nat} {B : List UInt8} (h : BlkOf w q (pcells 7 n s kv p) 161) (hi0 : ∀ W : World, (Instr.indexAt 159 kv (.int .i64 0)).run Tryz.prog W = .ok (.pointer (some (elt kv 0 1))) W) (hu0 : ∀ W : World, Ext w W → W.cell? (elt kv 0 1) = some u0) (hc0 : ∀ (W : World) (l : Nat), Ext w W → l ≤ 5 → Calls Tryz.prog 29 #[u0, .int .i64 l] W fun e w9 => e = .returned (.string ⟨(prT t0 l).toArray⟩) ∧ Ext W w9) (b04 : (prT t0 4).length ≤ 1000000) (hBody : [45] ++ prT t0 4 = B) (hBL : B.length ≤ 10000000) :
    Calls Tryz.prog 29 #[.pointer (some ⟨q, 0, none⟩), .int .i64 least] w fun e w9 => e = .returned (.string ⟨(wrapT 4 least B).toArray⟩) ∧ Ext w w9 := by
  have k0 : w.cell? ⟨q, 0, none⟩ = some (.int .i64 7) := h.cell 0
  have k2 : w.cell? ⟨q, 2, none⟩ = some (.string ⟨s.toArray⟩) := h.cell 2
  have k3 : w.cell? ⟨q, 3, none⟩ = some kv := h.cell 3
  have hk := hu0 w (Ext.refl _)
  have HC : Hid (Calls Tryz.prog 29 #[u0, .int .i64 4] w fun e w9 => e = .returned (.string ⟨(prT t0 4).toArray⟩) ∧ Ext w w9) := Lib.hid (hc0 w 4 (Ext.refl _) (by decide))
  have HB := Lib.hid h
  clear hc0 h hu0
  go_enter Tryz.func29, Tryz.ntmps29
  go_wp2_with fail
  refine HC.out.mono ?_
  rintro e w5 ⟨rfl, hx5⟩
  have HX := Lib.hid hx5
  clear hx5 k0 k2 k3 hk
  go_upto_region 28 with fail
  rw [show (⟨#[45]⟩ : ByteArray) ++ ⟨(prT t0 4).toArray⟩ = ⟨B.toArray⟩ from (cat [45] (prT t0 4)).trans (by rw [hBody])]
  have HB5 := Lib.hid (slevel_any (HB.out.ext HX.out) (by decide))
  have HL5 : Hid (Calls Tryz.prog 70 #[.pointer (some ⟨q, 0, none⟩)] w5 fun e w9 => e = .returned (.int .i64 4) ∧ w5 = w9) := HB5
  by_cases hl : 4 < least
  · have hd : decide ((4 : Int) < (least : Int)) = true := by rw [decide_eq_true_eq]; omega
    go_wp2_with (go_at_call 70; refine HL5.out.mono ?_; rintro e w9 ⟨rfl, rfl⟩)
    go_ret
    exact ⟨wrap_yes hl, HX.out⟩
  · have hd : decide ((4 : Int) < (least : Int)) = false := by rw [decide_eq_false_iff_not]; omega
    go_wp2_with (go_at_call 70; refine HL5.out.mono ?_; rintro e w9 ⟨rfl, rfl⟩)
    go_ret
    exact ⟨wrap_no hl, HX.out⟩
set_option maxRecDepth 100000 in
set_option maxHeartbeats 4000000 in
theorem tx_num {least : Nat} {B : List UInt8} (h : BlkOf w q (pcells 0 n s kv p) 161) (ht : Tab10 w) (h0 : 0 ≤ n) (h1 : n ≤ 9223372036854775807) (hBody : Lib.itoa n = B) (hBL : B.length ≤ 10000000) :
    Calls Tryz.prog 29 #[.pointer (some ⟨q, 0, none⟩), .int .i64 least] w fun e w9 => e = .returned (.string ⟨(wrapT 4 least B).toArray⟩) ∧ Ext w w9 := by
  have k0 : w.cell? ⟨q, 0, none⟩ = some (.int .i64 0) := h.cell 0
  have k1 : w.cell? ⟨q, 1, none⟩ = some (.int .i64 n) := h.cell 1
  have k2 : w.cell? ⟨q, 2, none⟩ = some (.string ⟨s.toArray⟩) := h.cell 2
  have HC := Lib.hid (pitoa_any n (by omega) h1 w ht)
  rw [hBody] at HC
  have HB := Lib.hid h
  clear h ht
  go_enter Tryz.func29, Tryz.ntmps29
  go_wp2_with fail
  refine HC.out.mono ?_
  rintro e w5 ⟨rfl, hx5⟩
  have HX := Lib.hid hx5
  clear hx5 k0 k1 k2
  have HB5 := Lib.hid (slevel_any (HB.out.ext HX.out) (by decide))
  have HL5 : Hid (Calls Tryz.prog 70 #[.pointer (some ⟨q, 0, none⟩)] w5 fun e w9 => e = .returned (.int .i64 4) ∧ w5 = w9) := HB5
  by_cases hl : 4 < least
  · have hd : decide ((4 : Int) < (least : Int)) = true := by rw [decide_eq_true_eq]; omega
    go_wp2_with (go_at_call 70; refine HL5.out.mono ?_; rintro e w9 ⟨rfl, rfl⟩)
    go_ret
    exact ⟨wrap_yes hl, HX.out⟩
  · have hd : decide ((4 : Int) < (least : Int)) = false := by rw [decide_eq_false_iff_not]; omega
    go_wp2_with (go_at_call 70; refine HL5.out.mono ?_; rintro e w9 ⟨rfl, rfl⟩)
    go_ret
    exact ⟨wrap_no hl, HX.out⟩
set_option maxRecDepth 100000 in
set_option maxHeartbeats 4000000 in
theorem tx_name {least : Nat} {B : List UInt8} (h : BlkOf w q (pcells 1 n s kv p) 161) (hBody : s = B) (hBL : B.length ≤ 10000000) :
    Calls Tryz.prog 29 #[.pointer (some ⟨q, 0, none⟩), .int .i64 least] w fun e w9 => e = .returned (.string ⟨(wrapT 4 least B).toArray⟩) ∧ Ext w w9 := by
  subst hBody
  have k0 : w.cell? ⟨q, 0, none⟩ = some (.int .i64 1) := h.cell 0
  have k2 : w.cell? ⟨q, 2, none⟩ = some (.string ⟨s.toArray⟩) := h.cell 2
  have HX := Lib.hid (Ext.refl w)
  have HB := Lib.hid h
  clear h
  go_enter Tryz.func29, Tryz.ntmps29
  go_upto_region 28 with fail
  clear k0 k2
  have HB5 := Lib.hid (slevel_any (HB.out.ext HX.out) (by decide))
  have HL5 : Hid (Calls Tryz.prog 70 #[.pointer (some ⟨q, 0, none⟩)] w fun e w9 => e = .returned (.int .i64 4) ∧ w = w9) := HB5
  by_cases hl : 4 < least
  · have hd : decide ((4 : Int) < (least : Int)) = true := by rw [decide_eq_true_eq]; omega
    go_wp2_with (go_at_call 70; refine HL5.out.mono ?_; rintro e w9 ⟨rfl, rfl⟩)
    go_ret
    exact ⟨wrap_yes hl, HX.out⟩
  · have hd : decide ((4 : Int) < (least : Int)) = false := by rw [decide_eq_false_iff_not]; omega
    go_wp2_with (go_at_call 70; refine HL5.out.mono ?_; rintro e w9 ⟨rfl, rfl⟩)
    go_ret
    exact ⟨wrap_no hl, HX.out⟩
end
end Go.Proofs.YtejkepihicphlaaGreatDoor
end
section
namespace Go.Att
theorem commaT_len (L : List (List UInt8)) : (commaT L).length ≤ (L.map fun x => x.length + 2).sum := by
  induction L with
  | nil => simp [commaT]
  | cons a r ih =>
    cases r with
    | nil => simp [commaT]
    | cons b r => rw [commaT, List.map_cons, List.sum_cons]; simp at ih ⊢; omega
theorem sum_le2 {α : Type} {f g : α → Nat} {l : List α} (h : ∀ x ∈ l, f x ≤ g x) : (l.map f).sum ≤ (l.map g).sum := by
  induction l with
  | nil => simp
  | cons a r ih =>
    rw [List.map_cons, List.map_cons, List.sum_cons, List.sum_cons]
    have := h a (by simp)
    have := ih fun x hx => h x (by simp [hx])
    omega
theorem sum_64 (l : List Tr) : (l.map fun t => 64 * weiT t).sum = 64 * (l.map weiT).sum := by
  induction l with
  | nil => simp
  | cons a r ih => rw [List.map_cons, List.map_cons, List.sum_cons, List.sum_cons, ih]; omega
theorem prT_len (t : Tr) : ∀ {k : Nat}, FitB k t → ∀ least, (prT t least).length + 2 ≤ 64 * weiT t := by
  induction t using Tr.ind with
  | h kd n s ks p ih =>
    intro k hf least
    have hb : (bodyT kd n s (ks.map prT)).length + 4 ≤ 64 * weiT (.mk kd n s ks p) := by
      rw [weiT_mk]
      have key : ∀ t ∈ ks, ∀ l, (prT t l).length + 2 ≤ 64 * weiT t := fun t ht l => by
        obtain ⟨m, hm⟩ := (fitB_node hf).2.2 t ht
        exact ih t ht hm l
      cases hf with
      | num h0 h1 =>
        have h := Lib.itoa_length_le n (by omega) h1
        simp [bodyT]; omega
      | name h => have := h.len; simp [bodyT]; omega
      | bin hk ha hb =>
        rename_i a b
        have h1 := fun l => key a (by simp) l
        have h2 := fun l => key b (by simp) l
        rcases hk with rfl | rfl | rfl | rfl
        · have := h1 2; have := h2 3; simp [bodyT, signT, lvT]; omega
        · have := h1 2; have := h2 3; simp [bodyT, signT, lvT]; omega
        · have := h1 3; have := h2 4; simp [bodyT, signT, lvT]; omega
        · have := h1 3; have := h2 4; simp [bodyT, signT, lvT]; omega
      | same ha hb =>
        rename_i a b
        have h1 := key a (by simp) 2
        have h2 := key b (by simp) 2
        simp [bodyT, signT]; omega
      | neg ha =>
        rename_i a
        have h1 := key a (by simp) 4
        simp [bodyT]; omega
      | letB h ha hb =>
        rename_i a b
        have h1 := key a (by simp) 0
        have h2 := key b (by simp) 0
        have := h.len
        simp [bodyT]; omega
      | need ha hb hc =>
        rename_i a b c
        have h1 := key a (by simp) 2
        have h2 := key b (by simp) 2
        have h3 := key c (by simp) 0
        simp [bodyT]; omega
      | ifB ha hb hc =>
        rename_i a b c
        have h1 := key a (by simp) 0
        have h2 := key b (by simp) 0
        have h3 := key c (by simp) 0
        simp [bodyT]; omega
      | call h hs =>
        have hl := h.len
        have hc := commaT_len (ks.map fun t => prT t 0)
        rw [List.map_map] at hc
        have h2 := sum_le2 (l := ks) (f := (fun x => List.length x + 2) ∘ fun t => prT t 0) (g := fun t => 64 * weiT t) (fun t ht => key t ht 0)
        rw [sum_64] at h2
        have e : bodyT 11 0 s (ks.map prT) = s ++ ([40] ++ commaT (ks.map fun t => prT t 0) ++ [41]) := by simp [bodyT, List.map_map, Function.comp_def]
        rw [e]
        simp; omega
    rw [prT_mk]
    split
    · simp; omega
    · omega
end Go.Att
end
section
namespace Go.Proofs.YtejkepihicphlaaGreatDoor
open Go.RowKit Go.Att Go.Shelf
section
variable {w : World} {q p : Nat} {n : Int} {s : List UInt8} {kv : Value}
set_option maxRecDepth 100000 in
set_option maxHeartbeats 8000000 in
theorem tx_call {ks : List Tr} {least : Nat} {B : List UInt8} (h : BlkOf w q (pcells 11 n s kv p) 161) (hs : s.length ≤ 16) (hll : ∀ ty w', (Builtin.len_ #[159] ty #[kv]).run Tryz.prog w' = .ok (.int .i64 ks.length) w') (hlen : ks.length ≤ 1000000)
    (hi : ∀ i : Nat, i < ks.length → ∀ W : World, (Instr.indexAt 159 kv (.int .i64 i)).run Tryz.prog W = .ok (.pointer (some (elt kv i 1))) W)
    (hk : ∀ (i : Nat) (t : Tr), ks[i]? = some t → ∃ u, (∀ W, Ext w W → W.cell? (elt kv i 1) = some u) ∧ ∀ (W : World) (l : Nat), Ext w W → l ≤ 5 → Calls Tryz.prog 29 #[u, .int .i64 l] W fun e w9 => e = .returned (.string ⟨(prT t l).toArray⟩) ∧ Ext W w9)
    (hcm : (commaT (ks.map fun t => prT t 0)).length ≤ 1000000) (hBody : s ++ ([40] ++ commaT (ks.map fun t => prT t 0) ++ [41]) = B) (hBL : B.length ≤ 10000000) :
    Calls Tryz.prog 29 #[.pointer (some ⟨q, 0, none⟩), .int .i64 least] w fun e w9 => e = .returned (.string ⟨(wrapT 4 least B).toArray⟩) ∧ Ext w w9 := by
  have k0 : w.cell? ⟨q, 0, none⟩ = some (.int .i64 11) := h.cell 0
  have k2 : w.cell? ⟨q, 2, none⟩ = some (.string ⟨s.toArray⟩) := h.cell 2
  have k3 : w.cell? ⟨q, 3, none⟩ = some kv := h.cell 3
  have HB := Lib.hid h; have HI := Lib.hid hi; have HK := Lib.hid hk
  clear h hi hk
  go_enter Tryz.func29, Tryz.ntmps29
  go_wp2_with fail
  clear k0 k2 k3
  go_loopw [6, 8, 170] (fun x6 _ x170 wr => ∃ j : Nat, j ≤ ks.length ∧ x170 = .int .i64 j ∧ Hid (wr.ownsRow w.heap.size 9 1 x6 j ((ks.take j).map fun t => strV (prT t 0))) ∧ Hid (Ext w wr)) (fun _ _ x170 _ => ks.length - (intOf x170).toNat)
  case atStart => exact ⟨0, Nat.zero_le _, rfl, Lib.hid (World.ownsRow_nil _ _ _ _), Lib.hid (Ext.refl w)⟩
  case round =>
    obtain ⟨j, hj, rfl, HO, HX⟩ := hrel
    by_cases hlt : j < ks.length
    · obtain ⟨t, ht⟩ : ∃ t, ks[j]? = some t := ⟨_, List.getElem?_eq_getElem hlt⟩
      obtain ⟨u, hu, hC⟩ := HK.out j t ht
      have hix := HI.out j hlt
      have hcell := hu wr HX.out
      have HC : Hid (Calls Tryz.prog 29 #[u, .int .i64 0] wr fun e w9 => e = .returned (.string ⟨(prT t 0).toArray⟩) ∧ Ext wr w9) := Lib.hid (hC wr 0 HX.out (by decide))
      have HT := Lib.hid (show (ks.take (j + 1)).map (fun t => strV (prT t 0)) = (ks.take j).map (fun t => strV (prT t 0)) ++ [strV (prT t 0)] by rw [List.take_add_one, ht]; simp)
      clear hu hC ht
      obtain ⟨ao, cap, rfl⟩ := own_shape HO.out
      go_wp2_with fail
      refine HC.out.mono ?_
      rintro e w5 ⟨rfl, hx5⟩
      have HO5 := Lib.hid (own_kept HO.out (hx5.grownBy none) (fun A hA e => by cases e))
      have HX5 := Lib.hid (HX.out.trans hx5)
      clear hx5 hcell HO HX
      have hbk := BlkOf.new w5 [strV (prT t 0)] 9
      have HOA := Lib.hid (own_kept HO5.out ((Ext.alloc w5 (.cells #[strV (prT t 0)] 9)).grownBy none) (fun A hA e => by cases e))
      have HXA := Lib.hid (HX5.out.trans (Ext.alloc w5 (.cells #[strV (prT t 0)] 9)))
      have hsz := HXA.out.size
      go_wp2_with (at_builtin; refine wpList_appBlk rfl _ _ 57 rfl slStrs rfl hsz HOA.out rfl hbk (by intro u hu; simp at hu; subst hu; rfl) rfl (by simp; omega) (by decide) ?_; intro v3 w3 HO3 HG3 _; have HOx := Lib.hid HO3; have HXx := Lib.hid (Ext.own_grown HXA.out HOA.out HG3); clear HO3 HG3 hsz)
      go_roundw
      case rel => exact ⟨j + 1, by omega, by go_num, Lib.hid (by rw [HT.out]; exact HOx.out), HXx⟩
      case measure => simp [intOf]; omega
    · obtain rfl : j = ks.length := by omega
      rw [List.take_length] at HO
      have HJ := Lib.hid (cjoin_any (L := ks.map fun t => prT t 0) (w := wr) (by unfold Strs; rw [List.length_map, List.map_map]; exact Sl.of_own HO.out (by omega)) (by simpa using hlen) (by omega))
      clear HO
      go_wp2_with fail
      refine HJ.out.mono ?_
      rintro e w5 ⟨rfl, hx5⟩
      have HX2 := HX
      have HX := Lib.hid (HX2.out.trans hx5)
      clear hx5 HX2 HJ
      go_upto_region 28 with fail
      rw [show (⟨s.toArray⟩ : ByteArray) ++ ((⟨#[40]⟩ : ByteArray) ++ ⟨(commaT (ks.map fun t => prT t 0)).toArray⟩ ++ ⟨#[41]⟩) = ⟨B.toArray⟩ from by rw [← hBody]; apply ByteArray.ext; simp]
      have HB5 := Lib.hid (slevel_any (HB.out.ext HX.out) (by decide))
      have HL5 : Hid (Calls Tryz.prog 70 #[.pointer (some ⟨q, 0, none⟩)] w5 fun e w9 => e = .returned (.int .i64 4) ∧ w5 = w9) := HB5
      by_cases hl : 4 < least
      · have hd : decide ((4 : Int) < (least : Int)) = true := by rw [decide_eq_true_eq]; omega
        go_wp2_with (go_at_call 70; refine HL5.out.mono ?_; rintro e w9 ⟨rfl, rfl⟩)
        go_ret
        exact ⟨wrap_yes hl, HX.out⟩
      · have hd : decide ((4 : Int) < (least : Int)) = false := by rw [decide_eq_false_iff_not]; omega
        go_wp2_with (go_at_call 70; refine HL5.out.mono ?_; rintro e w9 ⟨rfl, rfl⟩)
        go_ret
        exact ⟨wrap_no hl, HX.out⟩
end
end Go.Proofs.YtejkepihicphlaaGreatDoor
end
section
namespace Go.Proofs.YtejkepihicphlaaGreatDoor
open Go.RowKit Go.Att Go.Shelf
theorem wei_kid {ks : List Tr} {t : Tr} (h : t ∈ ks) : weiT t ≤ (ks.map weiT).sum := by
  induction ks with
  | nil => cases h
  | cons a r ih =>
    rw [List.map_cons, List.sum_cons]
    rcases List.mem_cons.mp h with e | e
    · subst e; omega
    · have := ih e; omega
theorem prT_wrap (k : Nat) (n : Int) (s : List UInt8) (ks : List Tr) (p least : Nat) : prT (.mk k n s ks p) least = wrapT (lvT k) least (bodyT k n s (ks.map prT)) := prT_mk k n s ks p least
set_option maxHeartbeats 1000000 in
theorem stext_any {lo hi : Nat} (t : Tr) : ∀ {k : Nat}, FitB k t → ∀ {w : World} {v : Value} {least : Nat}, trAt 161 83 t lo hi w v → Tab10 w → weiT t ≤ 4000 →
    Calls Tryz.prog 29 #[v, .int .i64 least] w fun e w9 => e = .returned (.string ⟨(prT t least).toArray⟩) ∧ Ext w w9 := by
  induction t using Tr.ind with
  | h kd num s ks p ih =>
    intro k hf w v least ht htab hw
    obtain ⟨h16, -, hkf⟩ := fitB_node hf
    have hlenB : (bodyT kd num s (ks.map prT)).length ≤ 10000000 := by
      have := prT_len _ hf 0
      rw [prT_mk, if_neg (Nat.not_lt_zero _)] at this
      omega
    rw [weiT_mk] at hw
    obtain ⟨q, kv, vs, rfl, hlq, hqh, hb, ho, hkA, he⟩ := trAt_mk.mp ht
    have hsl := Sl.of_own ho (by omega)
    have hll := Sl.run_len (P := Tryz.prog) hsl slParts
    have hi : ∀ i : Nat, i < ks.length → ∀ W : World, (Instr.indexAt 159 kv (.int .i64 i)).run Tryz.prog W = .ok (.pointer (some (elt kv i 1))) W := fun i hi W => Sl.run_index hsl slParts i (by omega) (by omega) W
    have hk : ∀ (i : Nat) (t : Tr), ks[i]? = some t → ∃ u, (∀ W, Ext w W → W.cell? (elt kv i 1) = some u) ∧ (∀ (W : World) (l : Nat), Ext w W → l ≤ 5 → Calls Tryz.prog 29 #[u, .int .i64 l] W fun e w9 => e = .returned (.string ⟨(prT t l).toArray⟩) ∧ Ext W w9) ∧ ∀ l, (prT t l).length ≤ 1000000 := fun i t hit => by
      obtain ⟨u, hu, hx⟩ := each_nth he hit
      have hm := List.mem_of_getElem? hit
      obtain ⟨m, hfm⟩ := hkf t hm
      have hwk := wei_kid hm
      exact ⟨u, fun W hW => hW.cell (sl_cell1 hsl (List.getElem?_eq_some_iff.1 hit).1 hu), fun W l hW _ => ih t hm hfm (hx.ext hW) (Tab10.ext htab hW) (by omega), fun l => by have := prT_len t hfm l; omega⟩
    rw [prT_wrap]
    cases hf with
    | num h0 h1 => exact tx_num hb htab h0 h1 rfl hlenB
    | name h => exact tx_name hb rfl hlenB
    | bin hkd ha hc =>
      rename_i a b
      obtain ⟨u0, hu0, hc0, hl0⟩ := hk 0 a rfl
      obtain ⟨u1, hu1, hc1, hl1⟩ := hk 1 b rfl
      rcases hkd with rfl | rfl | rfl | rfl
      · exact tx_add hb (hi 0 (by simp)) hu0 hc0 (hi 1 (by simp)) hu1 hc1 h16 (hl0 2) (hl1 3) rfl hlenB
      · exact tx_sub hb (hi 0 (by simp)) hu0 hc0 (hi 1 (by simp)) hu1 hc1 h16 (hl0 2) (hl1 3) rfl hlenB
      · exact tx_mul hb (hi 0 (by simp)) hu0 hc0 (hi 1 (by simp)) hu1 hc1 h16 (hl0 3) (hl1 4) rfl hlenB
      · exact tx_div hb (hi 0 (by simp)) hu0 hc0 (hi 1 (by simp)) hu1 hc1 h16 (hl0 3) (hl1 4) rfl hlenB
    | same ha hc =>
      rename_i a b
      obtain ⟨u0, hu0, hc0, hl0⟩ := hk 0 a rfl
      obtain ⟨u1, hu1, hc1, hl1⟩ := hk 1 b rfl
      exact tx_same hb (hi 0 (by simp)) hu0 hc0 (hi 1 (by simp)) hu1 hc1 h16 (hl0 2) (hl1 2) rfl hlenB
    | neg ha =>
      rename_i a
      obtain ⟨u0, hu0, hc0, hl0⟩ := hk 0 a rfl
      exact tx_neg hb (hi 0 (by simp)) hu0 hc0 (hl0 4) rfl hlenB
    | letB h ha hc =>
      rename_i a b
      obtain ⟨u0, hu0, hc0, hl0⟩ := hk 0 a rfl
      obtain ⟨u1, hu1, hc1, hl1⟩ := hk 1 b rfl
      exact tx_let hb (hi 0 (by simp)) hu0 hc0 (hi 1 (by simp)) hu1 hc1 h16 (hl0 0) (hl1 0) rfl hlenB
    | need ha hc hd =>
      rename_i a b c
      obtain ⟨u0, hu0, hc0, hl0⟩ := hk 0 a rfl
      obtain ⟨u1, hu1, hc1, hl1⟩ := hk 1 b rfl
      obtain ⟨u2, hu2, hc2, hl2⟩ := hk 2 c rfl
      exact tx_need hb (hi 0 (by simp)) hu0 hc0 (hi 1 (by simp)) hu1 hc1 (hi 2 (by simp)) hu2 hc2 h16 (hl0 2) (hl1 2) (hl2 0) rfl hlenB
    | ifB ha hc hd =>
      rename_i a b c
      obtain ⟨u0, hu0, hc0, hl0⟩ := hk 0 a rfl
      obtain ⟨u1, hu1, hc1, hl1⟩ := hk 1 b rfl
      obtain ⟨u2, hu2, hc2, hl2⟩ := hk 2 c rfl
      exact tx_if hb (hi 0 (by simp)) hu0 hc0 (hi 1 (by simp)) hu1 hc1 (hi 2 (by simp)) hu2 hc2 h16 (hl0 0) (hl1 0) (hl2 0) rfl hlenB
    | call h hss =>
      have e : bodyT 11 0 s (ks.map prT) = s ++ ([40] ++ commaT (ks.map fun t => prT t 0) ++ [41]) := by simp [bodyT, List.map_map, Function.comp_def]
      rw [e] at hlenB ⊢
      refine tx_call hb h16 (fun ty w' => hll ty w') ?_ hi (fun i t h => by obtain ⟨u, h1, h2, _⟩ := hk i t h; exact ⟨u, h1, h2⟩) ?_ rfl hlenB
      · have : ks.length ≤ (ks.map weiT).sum := by
          rw [← sum_ones ks]
          exact sum_le2 fun t _ => by cases t; rw [weiT_mk]; omega
        omega
      · have hc := commaT_len (ks.map fun t => prT t 0)
        rw [List.map_map] at hc
        have h2 := sum_le2 (l := ks) (f := (fun x => List.length x + 2) ∘ fun t => prT t 0) (g := fun t => 64 * weiT t) (fun t ht => by obtain ⟨m, hm⟩ := hkf t ht; exact prT_len t hm 0)
        rw [sum_64] at h2
        omega
end Go.Proofs.YtejkepihicphlaaGreatDoor
end
