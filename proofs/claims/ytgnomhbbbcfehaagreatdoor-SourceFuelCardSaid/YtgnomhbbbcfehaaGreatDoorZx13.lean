/- A walker looks at a sum and the like, and at a call: contract. Printed by wip/mkev8.py. A walker looks at any part: contract. A walk that is stopped is caught: contracts. -/
import Derived.Test.YtgnomhbbbcfehaaGreatDoorEv9
import Derived.Defers
import Derived.Recover
section
namespace Go.Proofs.YtgnomhbbbcfehaaGreatDoor
open Go.RowKit Go.Att Go.Shelf
theorem but2_new {a b : Nat} {u v x : World} (h : But2 a b u v) {row : Option Nat} (hg : v.grownBy x row) (hr : ∀ r, row = some r → u.heap.size ≤ r) : But2 a b u x :=
  ⟨hg.os.trans h.os, hg.tape.trans h.tape, hg.output.trans h.output, Nat.le_trans h.size hg.size, fun k hk h1 h2 => (hg.block k (Nat.lt_of_lt_of_le hk h.size) (fun e => by have := hr k e.symm; omega)).trans (h.block k hk h1 h2)⟩
theorem ext_new {u v x : World} (h : Ext u v) {row : Option Nat} (hg : v.grownBy x row) (hr : ∀ r, row = some r → u.heap.size ≤ r) : Ext u x := Below.grown h.below hg h.size hr
section
variable {w0 w w' : World} {bf wb pb lo hi fuel n left : Nat} {p g : Int} {ff : List Int} {fs : List Att.Fn} {fv : Value}
def restE (ev : Tr → Nat → Ev Int) (D : List Int → Nat → Ev Int) (vs : List Int) (ks : List Tr) (l : Nat) : Ev Int := (evL ev ks l).bind fun us l => D (vs ++ us) l
theorem restE_nil (ev : Tr → Nat → Ev Int) (D : List Int → Nat → Ev Int) (vs : List Int) (l : Nat) : restE ev D vs [] l = D vs l := by unfold restE; rw [evL]; show D (vs ++ []) l = _; rw [List.append_nil]
theorem restE_ok {ev : Tr → Nat → Ev Int} {D : List Int → Nat → Ev Int} {vs : List Int} {t : Tr} {r : List Tr} {l l' : Nat} {x : Int} (h : ev t l = .ok x l') : restE ev D vs (t :: r) l = restE ev D (vs ++ [x]) r l' := by
  unfold restE
  rw [evL, h]
  show ((evL ev r l').bind fun vs l => .ok (x :: vs) l).bind _ = _
  cases evL ev r l' with
  | ok us l2 => show D (vs ++ x :: us) l2 = D ((vs ++ [x]) ++ us) l2; rw [List.append_assoc]; rfl
  | stop k => rfl
theorem restE_stop {ev : Tr → Nat → Ev Int} {D : List Int → Nat → Ev Int} {vs : List Int} {t : Tr} {r : List Tr} {l k : Nat} (h : ev t l = .stop k) : restE ev D vs (t :: r) l = .stop k := by
  unfold restE
  rw [evL, h]; rfl
set_option maxRecDepth 100000 in
set_option maxHeartbeats 8000000 in
theorem slook_rest {kd : Nat} {l mb c q pos : Nat} {m : Env} {num : Int} {s : List UInt8} {kv : Value} {r : Ev Int} (hx : Ext w0 w) (hwb : w0.heap.size ≤ wb) (hmb : mb ≠ wb) (hfu : fuel ≤ 16384) (hb : BlkOf w0 q (pcells kd num s kv pos) 152) (hwk : WkAt w wb bf pb fuel (l + 1)) (hm : MpS w mb c m) {sc : List (List UInt8)} {ks : List Tr} {ev : Tr → Env → Nat → Ev Int} {D : List Int → Nat → Ev Int} (hmb0 : w0.heap.size ≤ mb) (hln : l ≤ n) (hc : c + (l + 1) ≤ 1000000) (_hp2 : p ≤ 2147483647) (hkn : Knows m sc) (hin : EnvIn p m) (hkd : kd ≠ 0 ∧ kd ≠ 1 ∧ kd ≠ 8 ∧ kd ≠ 10 ∧ kd ≠ 9) (hl : ∀ (ty : TypeId) (W : World), (Builtin.len_ #[150] ty #[kv]).run Tryz.prog W = .ok (.int .i64 ks.length) W) (hks : ks.length ≤ 4000) (KS : ∀ i t, ks[i]? = some t → ∃ u, KidAt w0 kv i u ∧ KidOk w0 bf wb pb fuel p n u (fun m l => ev t m l) sc) (HD : ∀ (vs : List Int) (l1 : Nat) (W : World) (v : Value), vs.length = ks.length → l1 ≤ l → Ext w0 W → WkAt W wb bf pb fuel l1 → Ints W v vs → (∀ x ∈ vs, 0 ≤ x ∧ x < p) → Calls Tryz.prog 110 #[.pointer (some ⟨wb, 0, none⟩), .pointer (some ⟨q, 0, none⟩), v] W (CpGot W wb bf pb fuel l1 p (D vs l1))) (hr : r = restE (fun t l => ev t m l) D [] ks l) : Calls Tryz.prog 69 #[.pointer (some ⟨wb, 0, none⟩), .pointer (some ⟨q, 0, none⟩), .map (some mb)] w (LkGot w wb bf pb fuel mb c (l + 1) m p r) := by
  have HKS := Lib.hid KS; have HDD := Lib.hid HD
  clear KS HD
  obtain ⟨k, hk, hbk⟩ := id hwk
  have c2 : w.cell? ⟨wb, 2, none⟩ = some (.int .i64 fuel) := hbk.cell 2
  have c3 : w.cell? ⟨wb, 3, none⟩ = some (.int .i64 k) := hbk.cell 3
  have c3f : w.frozen? ⟨wb, 3, none⟩ = false := hbk.free 3
  have hne : ((k : Int) == (fuel : Int)) = false := by rw [beq_eq_false_iff_ne]; omega
  have hk2 : k ≤ 16384 := by omega
  have HT := Lib.hid (tick_any hx hwb hk hbk hm hmb)
  have HX := Lib.hid hx; have HB := Lib.hid hb
  clear hbk hwk hm hx hb
  go_enter Tryz.func69, Tryz.ntmps69
  go_upto_region 1 with fail
  go_quiet (fail)
  go_upto_region 4 with fail
  obtain ⟨hx1, hb1, hk1, hm1⟩ := HT.out nq
  clear HT c2 c3 c3f hne
  generalize (w.drewN nq).setCell ⟨wb, 3, none⟩ (.int .i64 ((k : Int) + 1)) = w1 at *
  have k0 : w1.cell? ⟨q, 0, none⟩ = some (.int .i64 kd) := hx1.cell (HB.out.cell 0)
  have HX1 := Lib.hid hx1; have HB1 := Lib.hid hb1; have HK1 := Lib.hid hk1; have HM1 := Lib.hid hm1; have HR := Lib.hid hr
  clear hx1 hb1 hk1 hm1 hr
  have hwb1 := HK1.out.lt
  have hmb1 := Mpi.lt HM1.out
  have b0 : ((kd : Int) == 0) = false := by rw [beq_eq_false_iff_ne]; omega
  have b1 : ((kd : Int) == 1) = false := by rw [beq_eq_false_iff_ne]; omega
  have b8 : ((kd : Int) == 8) = false := by rw [beq_eq_false_iff_ne]; omega
  have b10 : ((kd : Int) == 10) = false := by rw [beq_eq_false_iff_ne]; omega
  have b9 : ((kd : Int) == 9) = false := by rw [beq_eq_false_iff_ne]; omega
  have k3 : w1.cell? ⟨q, 3, none⟩ = some kv := HX1.out.cell (HB.out.cell 3)
  go_wp2_with fail
  clear k0 k3 b0 b1 b8 b10 b9 hl
  go_loopw [8, 10, 150] (fun x8 _ x150 wr => ∃ (j l1 c1 : Nat) (vs : List Int), j ≤ ks.length ∧ x150 = .int .i64 j ∧ vs.length = j ∧ c1 + l1 ≤ c + l ∧ l1 ≤ l ∧ Hid (wr.ownsRow w1.heap.size 3 1 x8 j (vs.map (Value.int .i64))) ∧ Hid (w1.heap.size ≤ wr.heap.size ∧ But2 wb mb w wr ∧ Ext w0 wr ∧ WkAt wr wb bf pb fuel l1 ∧ MpS wr mb c1 m) ∧ Hid (∀ x ∈ vs, 0 ≤ x ∧ x < p) ∧ Hid (r = restE (fun t l => ev t m l) D vs (ks.drop j) l1)) (fun _ _ x150 _ => ks.length - (intOf x150).toNat)
  case atStart => exact ⟨0, l, c, [], Nat.zero_le _, rfl, rfl, Nat.le_refl _, Nat.le_refl _, Lib.hid (World.ownsRow_nil _ _ _ _), Lib.hid ⟨Nat.le_refl _, HB1.out, HX1.out, HK1.out, HM1.out⟩, Lib.hid (fun x hx => by cases hx), HR⟩
  case round =>
    obtain ⟨j, l1, c1, vs, hj, rfl, hvl, hcl, hl1, HO, HS, HV, HRR⟩ := hrel
    by_cases hlt : j < ks.length
    · obtain ⟨t, ht⟩ : ∃ t, ks[j]? = some t := ⟨_, List.getElem?_eq_getElem hlt⟩
      obtain ⟨u, ⟨hix0, hcu⟩, hC⟩ := HKS.out j t ht
      have hix : ∀ W, (Instr.indexAt 150 kv (.int .i64 j)).run Tryz.prog W = .ok (.pointer (some (elt kv j 1))) W := hix0
      have hcell := hcu wr HS.out.2.2.1
      have hcall := hC m l1 c1 mb wr (by omega) HS.out.2.2.1 hmb0 hmb hkn hin HS.out.2.2.2.1 HS.out.2.2.2.2 (by omega)
      have HDR := Lib.hid (show ks.drop j = t :: ks.drop (j + 1) from by
        obtain ⟨h1, h2⟩ := List.getElem?_eq_some_iff.1 ht
        rw [List.drop_eq_getElem_cons h1, h2])
      clear hC ht hcu hix0
      obtain ⟨ao, cap, rfl⟩ := own_shape HO.out
      go_wp2_with fail
      refine hcall.mono ?_
      clear hcall hcell hix
      intro e w5 hG
      rcases hG.cases with ⟨x, l2, hr, rfl, h1, h2, ⟨c2, h3, h4⟩, h5, h6, h7⟩ | ⟨k, hr, h1, h2⟩
      · have HO5 := Lib.hid (h1.own HO.out (fun A hA => by have := (own_blk HO.out hA).1; omega))
        have HXA := Lib.hid (Ext.alloc w5 (.cells #[.int .i64 x] 3))
        have HS5 := Lib.hid (show w1.heap.size ≤ w5.heap.size ∧ But2 wb mb w w5 ∧ Ext w0 w5 ∧ WkAt w5 wb bf pb fuel l2 ∧ MpS w5 mb c2 m from ⟨Nat.le_trans HS.out.1 h1.size, HS.out.2.1.trans h1, h1.ext HS.out.2.2.1 hwb hmb0, h2, h4⟩)
        have HR5 := Lib.hid (show r = restE (fun t l => ev t m l) D (vs ++ [x]) (ks.drop (j + 1)) l2 from by rw [HRR.out, HDR.out]; exact restE_ok hr)
        have HV5 := Lib.hid (show ∀ y ∈ vs ++ [x], 0 ≤ y ∧ y < p from fun y hy => by
          rcases List.mem_append.1 hy with hy | hy
          · exact HV.out y hy
          · rw [List.mem_singleton.1 hy]; exact ⟨h6, h7⟩)
        clear hG h1 h2 h4 hr h6 h7 HO HS HRR
        have hbk := BlkOf.new w5 [.int .i64 x] 3
        have HOA := Lib.hid (own_kept HO5.out (HXA.out.grownBy none) (fun A hA e => by cases e))
        have hsz : w1.heap.size ≤ (w5.alloc (.cells #[.int .i64 x] 3)).heap.size := Nat.le_trans HS5.out.1 HXA.out.size
        go_wp2_with (at_builtin; refine wpList_appBlk rfl _ _ 22 rfl slInts rfl hsz HOA.out rfl hbk (by intro u hu; simp at hu; subst hu; rfl) rfl (by simp; omega) (by decide) ?_; intro v3 w3 HO3 HG3 _; have HOx := Lib.hid HO3; have HGx := Lib.hid HG3; clear HO3 HG3)
        have hown : ∀ A, (Value.slice ao j cap).ownBlock = some A → w1.heap.size ≤ A := fun A hA => (own_blk HOA.out hA).1
        have hwsz := HB1.out.size
        have hx1sz := HX1.out.size
        have HS6 := Lib.hid (show w1.heap.size ≤ w3.heap.size ∧ But2 wb mb w w3 ∧ Ext w0 w3 ∧ WkAt w3 wb bf pb fuel l2 ∧ MpS w3 mb c2 m from
          ⟨Nat.le_trans hsz HGx.out.size, but2_new (HS5.out.2.1.trans (But2.of_ext HXA.out)) HGx.out (fun A hA => by have := hown A hA; omega), ext_new (HS5.out.2.2.1.trans HXA.out) HGx.out (fun A hA => by have := hown A hA; omega),
            (HS5.out.2.2.2.1.ext HXA.out).grown HGx.out (fun e => by have := hown _ e.symm; omega), Mpi.kept (Mpi.ext HS5.out.2.2.2.2 HXA.out) HGx.out (fun e => by have := hown _ e.symm; omega)⟩)
        clear hbk hsz hown hwsz hx1sz
        go_roundw
        case rel => exact ⟨j + 1, l2, c2, vs ++ [x], by omega, by go_num, by simp [hvl], by omega, by omega, Lib.hid (by rw [List.map_append]; exact HOx.out), HS6, HV5, HR5⟩
        case measure => simp [intOf] <;> omega
      · have HB3 := Lib.hid (HS.out.2.1.trans h2); have HR3 := Lib.hid (show r = .stop k from HRR.out.trans (by rw [HDR.out]; exact restE_stop hr))
        obtain rfl := h1
        clear hG h2 hr
        go_wp2_with fail
        exact ⟨rfl, LkGot.halt HR3.out rfl HB3.out⟩
    · obtain rfl : j = ks.length := by omega
      have HR3 := Lib.hid (show r = D vs l1 from HRR.out.trans (by rw [List.drop_length, restE_nil]))
      obtain ⟨ao, cap, rfl⟩ := own_shape HO.out
      have hcall := HDD.out vs l1 wr _ hvl hl1 HS.out.2.2.1 HS.out.2.2.2.1 (Ints.of_own HO.out) HV.out
      clear HDD HKS
      go_wp2_with fail
      refine hcall.mono ?_
      clear hcall
      intro e w5 hG
      rcases hG.cases with ⟨x, l2, hr, rfl, h1, h2, h5, h6, h7⟩ | ⟨k, hr, h1, h2⟩
      · have HB5 := Lib.hid (HS.out.2.1.trans (But2.of_grown h1 (fun r e => .inl (Option.some.inj e).symm)))
        have HM5 := Lib.hid (Mpi.kept HS.out.2.2.2.2 h1 (fun e => hmb (Option.some.inj e)))
        have HR5 := Lib.hid (HR3.out.trans hr); have HK5 := Lib.hid h2
        clear hG h1 h2 hr
        go_wp2_with fail
        go_ret
        exact LkGot.ok HR5.out HB5.out HK5.out (by omega) HM5.out (by omega) h6 h7
      · have HB5 := Lib.hid (HS.out.2.1.trans (But2.of_grown h2 (fun r e => .inl (Option.some.inj e).symm)))
        have HR5 := Lib.hid (HR3.out.trans hr)
        obtain rfl := h1
        clear hG h2 hr
        go_wp2_with fail
        exact ⟨rfl, LkGot.halt HR5.out rfl HB5.out⟩
end
end Go.Proofs.YtgnomhbbbcfehaaGreatDoor
end
section
namespace Go.Proofs.YtgnomhbbbcfehaaGreatDoor
open Go.RowKit Go.Att Go.Shelf
section
variable {w0 w w' : World} {bf wb pb lo hi fuel n left : Nat} {p g : Int} {ff : List Int} {fs : List Att.Fn} {fv : Value}
theorem mod_in {p : Int} (hp : 0 < p) (x : Int) : 0 ≤ x % p ∧ x % p < p := ⟨Int.emod_nonneg _ (by omega), Int.emod_lt_of_pos _ hp⟩
theorem two_of {vs : List Int} (h : vs.length = 2) : ∃ a b, vs = [a, b] := by
  match vs, h with
  | [a, b], _ => exact ⟨a, b, rfl⟩
theorem one_of {vs : List Int} (h : vs.length = 1) : ∃ a, vs = [a] := by
  match vs, h with
  | [a], _ => exact ⟨a, rfl⟩
theorem scomp_any (C : EvC w0 bf wb pb lo hi p g ff fs fv) (HL : LookOk w0 bf wb pb lo hi fuel p fs n) {kd q pos : Nat} {num : Int} {s : List UInt8} {ks : List Tr} {kv v : Value} {vs : List Int} {sc : List (List UInt8)}
    (hkd : ((kd = 2 ∨ kd = 3 ∨ kd = 4 ∨ kd = 5 ∨ kd = 6) ∧ ∃ a b, ks = [a, b]) ∨ (kd = 7 ∧ ∃ a, ks = [a]) ∨ kd = 11) (hchk : chkT (arit fs) (.mk kd num s ks pos) sc = none) (hx : Ext w0 w) (hb : BlkOf w0 q (pcells kd num s kv pos) 152) (hwk : WkAt w wb bf pb fuel left) (hln : left ≤ n) (hl2 : left ≤ 16384) (hlen : vs.length = ks.length) (hvs : ∀ x ∈ vs, 0 ≤ x ∧ x < p) (hv : Ints w v vs) :
    Calls Tryz.prog 110 #[.pointer (some ⟨wb, 0, none⟩), .pointer (some ⟨q, 0, none⟩), v] w (CpGot w wb bf pb fuel left p (endE p fs n kd s vs left)) := by
  have hp0 : 0 < p := by have := C.fld.lo; omega
  have hp2 : 2 ≤ p := C.fld.two
  have hf := C.fld.ext hx
  have hb' := hb.ext hx
  rcases hkd with ⟨hk, a, b, rfl⟩ | ⟨rfl, a, rfl⟩ | rfl
  · obtain ⟨x, y, rfl⟩ := two_of hlen
    rcases hk with rfl | rfl | rfl | rfl | rfl
    · exact scomp_add hf hb' hwk hv rfl (mod_in hp0 _)
    · exact scomp_sub hf hb' hwk hv rfl (mod_in hp0 _)
    · exact scomp_mul hf hb' hwk hv rfl (mod_in hp0 _)
    · by_cases hy : y = 0
      · subst hy; exact scomp_div0 hf hb' hwk hv rfl
      · exact scomp_div hf hb' hwk hv hy (by show (match (if y = 0 then none else some (fdiv p x y)) with | none => _ | some v => _) = _; rw [if_neg hy]) (mod_in hp0 _)
    · refine scomp_same hf hb' hwk hv rfl ?_
      by_cases e : x = y
      · simp only [e, if_true]; exact ⟨by omega, by omega⟩
      · simp only [e, if_false]; exact ⟨by omega, hp0⟩
  · obtain ⟨x, rfl⟩ := one_of hlen
    exact scomp_neg hf hb' hwk hv rfl (mod_in hp0 _)
  · obtain ⟨f, hfm, hff, hfl⟩ := C.chk.call (chk_call hchk)
    have e : endE p fs n 11 s vs left = evT p fs n f.body (bindE (f.names.map (·.1)) vs) left := by unfold endE; rw [if_pos rfl, hff]
    rw [e]
    exact scomp_call C HL hfm hff hx hb hwk hln hl2 (by omega) hvs hv
theorem look_all (C : EvC w0 bf wb pb lo hi p g ff fs fv) (hfu : fuel ≤ 16384) : ∀ n, LookOk w0 bf wb pb lo hi fuel p fs n
  | 0 => fun t sc m left c mb w v hln hx hmb0 hmb hT hchk hfit hw hkn hin hwk hm hc => by
    obtain rfl : left = 0 := by omega
    exact slook_zero hwk (by rw [evT])
  | n + 1 => fun t sc m left c mb w v hln hx hmb0 hmb hT hchk hfit hw hkn hin hwk hm hc => by
    have HL := look_all C hfu n
    cases left with
    | zero => exact slook_zero hwk (by cases t; rw [evT_succ, if_pos rfl])
    | succ l =>
      obtain ⟨kd, num, s, ks, pos⟩ := t
      obtain ⟨kf, hf⟩ := hfit
      obtain ⟨hs16, h0, h1, hkf, hkd⟩ := fitB_kids hf
      obtain ⟨q, kv, us, rfl, hlq, hqh, hb, ho, hkA, he⟩ := trAt_mk.mp hT
      have hsl := Sl.of_own ho (by omega)
      have hlen := Sl.run_len (P := Tryz.prog) hsl slParts
      have hp0 : 0 < p := by have := C.fld.lo; omega
      have hp2 := C.fld.hi
      have hln' : l ≤ n := by omega
      have hlf : l ≤ 16384 := by obtain ⟨k, hk, _⟩ := hwk; omega
      rw [weiT_mk] at hw
      have hks := len_wei ks
      have KID : ∀ i t, ks[i]? = some t → ∃ u, KidAt w0 kv i u ∧ ∀ sc', chkT (arit fs) t sc' = none → KidOk w0 bf wb pb fuel p n u (evT p fs n t) sc' := fun i t hit => by
        obtain ⟨u, hu, hxt⟩ := each_nth he hit
        have hlt : i < ks.length := (List.getElem?_eq_some_iff.1 hit).1
        have hm := List.mem_of_getElem? hit
        have hle : weiT t ≤ (ks.map weiT).sum := sum_mem1 (List.mem_map_of_mem hm)
        exact ⟨u, ⟨fun W => Sl.run_index hsl slParts i (by omega) (by omega) W, fun W hW => hW.cell (sl_cell1 hsl hlt hu)⟩, fun sc' hc' m' left' c' mb' W' a1 a2 a3 a4 a5 a6 a7 a8 a9 => HL t sc' m' left' c' mb' W' u a1 a2 a3 a4 hxt hc' (hkf t hm) (by omega) a5 a6 a7 a8 a9⟩
      rcases hkd with ⟨rfl, rfl⟩ | ⟨rfl, rfl⟩ | ⟨rfl, a, b, rfl⟩ | ⟨rfl, a, b, d, rfl⟩ | ⟨rfl, a, b, d, rfl⟩ | hrest
      · exact slook_num hx C.wbk hmb hfu hb hwk hm C.fld (by rw [evT_succ, if_neg (by omega), if_pos rfl, Nat.add_sub_cancel])
      · exact slook_name hx C.wbk hmb hfu hb hwk hm hs16 hp0 hin (by rw [evT_succ, if_neg (by omega), if_neg (by omega), if_pos rfl, Nat.add_sub_cancel])
      · obtain ⟨hsn, hca, hcb⟩ := chk_let hchk
        obtain ⟨u0, K0, O0⟩ := KID 0 a rfl
        obtain ⟨u1, K1, O1⟩ := KID 1 b rfl
        exact slook_let hx C.wbk hmb hfu hb hwk hm hmb0 hln' hc hp2 hkn hin hs16 hsn K0 K1 (O0 sc hca) (O1 (s :: sc) hcb) (by rw [evT_succ, if_neg (by omega), if_neg (by omega), if_neg (by omega), if_pos rfl, Nat.add_sub_cancel]; rfl)
      · have hk := chk_kids (by omega) hchk
        obtain ⟨u0, K0, O0⟩ := KID 0 a rfl
        obtain ⟨u1, K1, O1⟩ := KID 1 b rfl
        obtain ⟨u2, K2, O2⟩ := KID 2 d rfl
        exact slook_need hx C.wbk hmb hfu hb hwk hm hmb0 hln' hc hp2 hkn hin K0 K1 K2 (O0 sc (hk a (by simp))) (O1 sc (hk b (by simp))) (O2 sc (hk d (by simp))) (by rw [evT_succ, if_neg (by omega), if_neg (by omega), if_neg (by omega), if_neg (by omega), if_neg (by omega), if_pos rfl, Nat.add_sub_cancel]; rfl)
      · have hk := chk_kids (by omega) hchk
        obtain ⟨u0, K0, O0⟩ := KID 0 a rfl
        obtain ⟨u1, K1, O1⟩ := KID 1 b rfl
        obtain ⟨u2, K2, O2⟩ := KID 2 d rfl
        exact slook_if hx C.wbk hmb hfu hb hwk hm hmb0 hln' hc hp2 hkn hin K0 K1 K2 (O0 sc (hk a (by simp))) (O1 sc (hk b (by simp))) (O2 sc (hk d (by simp))) (by rw [evT_succ, if_neg (by omega), if_neg (by omega), if_neg (by omega), if_neg (by omega), if_pos rfl, Nat.add_sub_cancel]; rfl)
      · have hne : kd ≠ 0 ∧ kd ≠ 1 ∧ kd ≠ 8 ∧ kd ≠ 10 ∧ kd ≠ 9 := by omega
        have hk := chk_kids hne.2.2.1 hchk
        exact slook_rest hx C.wbk hmb hfu hb hwk hm hmb0 hln' hc hp2 hkn hin hne hlen (by omega)
          (fun i t hit => by obtain ⟨u, K, O⟩ := KID i t hit; exact ⟨u, K, O sc (hk t (List.mem_of_getElem? hit))⟩) (ev := evT p fs n) (D := endE p fs n kd s)
          (fun vs l1 W v a1 a2 a3 a4 a5 a6 => scomp_any C HL hrest hchk a3 hb a4 (by omega) (by omega) a1 a6 a5)
          (by rw [evT_succ, if_neg (by omega), if_neg hne.1, if_neg hne.2.1, if_neg hne.2.2.1, if_neg hne.2.2.2.1, if_neg hne.2.2.2.2, Nat.add_sub_cancel]; rfl)
end
end Go.Proofs.YtgnomhbbbcfehaaGreatDoor
end
section
namespace Go.Proofs.YtgnomhbbbcfehaaGreatDoor
open Go.RowKit Go.Att Go.Maps
attribute [local go_sem ↓] Go.wp_at_zero Go.wp_at_succ
theorem eval_put {V : World} {r1 r2 : Nat} {v1 v2 v3 u1 u2 u3 : Value} {t1 t2 : TypeId} (h1 : BlkOf V r1 [v1, v2] t1) (h2 : BlkOf V r2 [v3] t2) (n1 : r1 ≠ r2) :
    BlkOf (((V.setCell ⟨r1, 0, none⟩ u1).setCell ⟨r1, 1, none⟩ u2).setCell ⟨r2, 0, none⟩ u3) r1 [u1, u2] t1 ∧ BlkOf (((V.setCell ⟨r1, 0, none⟩ u1).setCell ⟨r1, 1, none⟩ u2).setCell ⟨r2, 0, none⟩ u3) r2 [u3] t2 ∧ ∀ w0, Ext w0 V → w0.heap.size ≤ r1 → w0.heap.size ≤ r2 → Ext w0 (((V.setCell ⟨r1, 0, none⟩ u1).setCell ⟨r1, 1, none⟩ u2).setCell ⟨r2, 0, none⟩ u3) := by
  have G1 := setCell_grown V r1 0 u1
  have G2 := setCell_grown (V.setCell ⟨r1, 0, none⟩ u1) r1 1 u2
  have G3 := setCell_grown ((V.setCell ⟨r1, 0, none⟩ u1).setCell ⟨r1, 1, none⟩ u2) r2 0 u3
  refine ⟨((h1.set 0 u1).set 1 u2).grown G3 (fun e => n1 (Option.some.inj e)), ((h2.grown G1 (fun e => n1 (Option.some.inj e).symm)).grown G2 (fun e => n1 (Option.some.inj e).symm)).set 0 u3, fun w0 hx a1 a2 => ?_⟩
  exact ext_new (ext_new (ext_new hx G1 (fun k e => by cases e; exact a1)) G2 (fun k e => by cases e; exact a1)) G3 (fun k e => by cases e; exact a2)
theorem rep18e : Array.replicate 18 undef = #[undef, undef, undef, undef, undef, undef, undef, undef, undef, undef, undef, undef, undef, undef, undef, undef, undef, undef] := rfl
set_option maxRecDepth 100000 in
set_option maxHeartbeats 1000000 in
theorem ecatch_idle (p q : Value) (w : World) :
    CallsD Tryz.prog 32 #[p, q] .returning w fun e u' w' => e = .returned (.tuple #[]) ∧ u' = .returning ∧ w = w' := by
  refine callsD_of_wpS Tryz.func32 rfl fun c₀ cs hu => ?_
  apply wpS_seq
  apply wpS_region
  simp [wpOpsS, go_sem, recoverD, hu, Tryz.ntmps32, Exit.thenS, rep18e]
  refine wpS_of_wp ?_
  go_wp2_with fail
  cases c₀ with
  | mk a1 a2 a3 a4 a5 a6 a7 =>
  have hu' : a5 = .returning := hu
  subst hu'
  refine ⟨rfl, .returning, rfl, .tuple #[], ?_, rfl, rfl, rfl⟩
  simp [results, Tryz.results32]
def StopCaught (w : World) (k : Int) (r1 r2 : Nat) (older : List PanicEntry) (e : Ending) (u' : FrameMode) (w' : World) : Prop :=
  e = .returned (.tuple #[]) ∧ u' = .panicking ({ v := .iface 87 (.agg #[.int .i64 k]), recovered := true } :: older) ∧ BlkOf w' r1 [.int .i64 0, .int .i64 0] 36 ∧ BlkOf w' r2 [.iface 60 (.int .i64 k)] 28 ∧ ∀ w0, Ext w0 w → w0.heap.size ≤ r1 → w0.heap.size ≤ r2 → Ext w0 w'
set_option maxRecDepth 100000 in
set_option maxHeartbeats 1000000 in
theorem ecatch_stops (r1 r2 : Nat) (k : Int) (older : List PanicEntry) (w : World) {v1 v2 v3 : Value} (h1 : BlkOf w r1 [v1, v2] 36) (h2 : BlkOf w r2 [v3] 28) (n1 : r1 ≠ r2) :
    CallsD Tryz.prog 32 #[.pointer (some ⟨r1, 0, none⟩), .pointer (some ⟨r2, 0, none⟩)] (.panicking ({ v := .iface 87 (.agg #[.int .i64 k]), recovered := false } :: older)) w (StopCaught w k r1 r2 older) := by
  have hta : ∀ w, (Instr.typeAssert (.iface 87 (.agg #[.int .i64 k])) 20 87 true).run Tryz.prog w = .ok (.tuple #[.agg #[.int .i64 k], .bool true]) w := fun _ => by kernel_rfl
  have hx := Ext.alloc w (Obj.cells #[.int .i64 k] 87)
  have c1 : (w.alloc (Obj.cells #[.int .i64 k] 87)).cell? ⟨r1, 0, none⟩ = some v1 := (h1.ext hx).cell 0
  have c2 : (w.alloc (Obj.cells #[.int .i64 k] 87)).cell? ⟨r1, 1, none⟩ = some v2 := (h1.ext hx).cell 1
  have c3 : (w.alloc (Obj.cells #[.int .i64 k] 87)).cell? ⟨r2, 0, none⟩ = some v3 := (h2.ext hx).cell 0
  have f1 := (h1.ext hx).free 0
  have f2 := (h1.ext hx).free 1
  have f3 := (h2.ext hx).free 0
  have m1 := h1.lt; have m2 := h2.lt
  have HX := Lib.hid hx; have HA := Lib.hid h1; have HB := Lib.hid h2
  clear hx h1 h2
  refine callsD_of_wpS Tryz.func32 rfl fun c₀ cs hu => ?_
  apply wpS_seq
  apply wpS_region
  simp [wpOpsS, go_sem, recoverD, hu, Tryz.ntmps32, Exit.thenS, rep18e]
  refine wpS_of_wp ?_
  go_wp2_with fail
  have s0 : (w.alloc (Obj.cells #[.int .i64 k] 87)).cell? ⟨w.heap.size, 0, none⟩ = some (.int .i64 k) := (BlkOf.new w [.int .i64 k] 87).cell 0
  have g1 : w.heap.size ≠ r1 := by omega
  have g2 : w.heap.size ≠ r2 := by omega
  replace HA := Lib.hid (HA.out.ext HX.out); replace HB := Lib.hid (HB.out.ext HX.out)
  clear m1 m2 hta
  generalize w.alloc (Obj.cells #[.int .i64 k] 87) = W at *
  generalize w.heap.size = sb at *
  have k1 := g1.symm
  have k2 := g2.symm
  have HH : Hid (∀ (W' : World) (r o : Nat) (u : Value), r ≠ sb → W'.cell? ⟨sb, 0, none⟩ = some (.int .i64 k) → (W'.setCell ⟨r, o, none⟩ u).cell? ⟨sb, 0, none⟩ = some (.int .i64 k)) := Lib.hid (fun W' r o u hne h => (World.cell?_setCell_other _ _ _ _ (by simp; try omega)).trans h)
  go_region_held3 (fun w' => w'.cell? ⟨sb, 0, none⟩ = some (.int .i64 k)) (first | exact s0 | exact HH.out _ _ _ _ (by assumption) s0 | exact HH.out _ _ _ _ (by assumption) (HH.out _ _ _ _ (by assumption) s0) | exact HH.out _ _ _ _ (by assumption) (HH.out _ _ _ _ (by assumption) (HH.out _ _ _ _ (by assumption) s0))) (fail)
  rename_i hHeld; clear hHeld
  go_wp2_with fail
  have K := eval_put (u1 := .int .i64 0) (u2 := .int .i64 0) (u3 := .iface 60 (.int .i64 k)) HA.out HB.out n1
  have X4 := Ext.drew (((W.setCell ⟨r1, 0, none⟩ (.int .i64 0)).setCell ⟨r1, 1, none⟩ (.int .i64 0)).setCell ⟨r2, 0, none⟩ (.iface 60 (.int .i64 k)))
  refine ⟨rfl, _, rfl, .tuple #[], ?_, rfl, rfl, K.1.ext X4, K.2.1.ext X4, fun w0 hx h1 h2 => (K.2.2 w0 (hx.trans HX.out) h1 h2).trans X4⟩
  simp [results, Tryz.results32]
theorem res_eval {w : World} {r1 r2 : Nat} {v1 v2 v3 : Value} (h1 : BlkOf w r1 [v1, v2] 36) (h2 : BlkOf w r2 [v3] 28) (tmps : Array Value) (g1 : tmps.getD 8 undef = .pointer (some ⟨r1, 0, none⟩)) (g2 : tmps.getD 9 undef = .pointer (some ⟨r2, 0, none⟩)) :
    (results Tryz.f10 tmps).run Tryz.prog w = .ok (.tuple #[.agg #[v1, v2], v3]) w := by
  have g1' : tmps[8]?.getD undef = .pointer (some ⟨r1, 0, none⟩) := by simpa using g1
  have g2' : tmps[9]?.getD undef = .pointer (some ⟨r2, 0, none⟩) := by simpa using g2
  have k1 : w.cell? ⟨r1, 0, none⟩ = some v1 := h1.cell 0
  have k2 : w.cell? ⟨r1, 1, none⟩ = some v2 := h1.cell 1
  have k3 : w.cell? ⟨r2, 0, none⟩ = some v3 := h2.cell 0
  clear h1 h2
  simp [results, Tryz.results10, go_sem, g1', g2', k1, k2, k3]
end Go.Proofs.YtgnomhbbbcfehaaGreatDoor
end
