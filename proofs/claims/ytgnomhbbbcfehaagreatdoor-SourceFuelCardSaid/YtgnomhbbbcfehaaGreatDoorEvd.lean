/- What main comes to: Eval: contract. -/
import Derived.Test.YtgnomhbbbcfehaaGreatDoorZx13
namespace Go.Att
inductive EvR where
  | val (v : Int) (parts : Nat)
  | err (k : Nat)
def evalP (p : Int) (fs : List Fn) (args : List Int) (fuel : Int) : EvR := match findF fs mainW with
  | none => .err 0
  | some f => if args.length ≠ f.names.length then .err 2 else if fuel < 0 ∨ 16384 < fuel then .err 3
    else match evT p fs fuel.toNat f.body (bindE (f.names.map (·.1)) (args.map (fof p))) fuel.toNat with
    | .ok v l => .val v (fuel.toNat - l)
    | .stop k => .err k
end Go.Att
namespace Go.Proofs.YtgnomhbbbcfehaaGreatDoor
open Go.RowKit Go.Att Go.Shelf
def EvGot (w : World) (r : EvR) (e : Ending) (w' : World) : Prop := match r with
  | .val v k => e = .returned (.tuple #[.agg #[.int .i64 v, .int .i64 k], .nilIface]) ∧ Ext w w'
  | .err k => e = .returned (.tuple #[.agg #[.int .i64 0, .int .i64 0], .iface 60 (.int .i64 k)]) ∧ Ext w w'
theorem EvGot.err {w w' : World} {r : EvR} {k : Nat} (hr : r = .err k) (hx : Ext w w') : EvGot w r (.returned (.tuple #[.agg #[.int .i64 0, .int .i64 0], .iface 60 (.int .i64 k)])) w' := by subst hr; exact ⟨rfl, hx⟩
theorem EvGot.val {w w' : World} {r : EvR} {v : Int} {k : Nat} (hr : r = .val v k) (hx : Ext w w') : EvGot w r (.returned (.tuple #[.agg #[.int .i64 v, .int .i64 k], .nilIface])) w' := by subst hr; exact ⟨rfl, hx⟩
section
variable {w : World} {bf pb lo hi : Nat} {p g : Int} {ff : List Int} {fs : List Att.Fn} {fv : Value}
set_option maxRecDepth 100000 in
set_option maxHeartbeats 8000000 in
theorem seval_any (hf : Fld w (.pointer (some ⟨bf, 0, none⟩)) p g ff) (hp : BlkOf w pb [fv] 71) (hfs : fsAt fs lo hi w fv) (hhi : hi ≤ w.heap.size) (hch : Chkd fs) {av : Value} {args : List Int} (ha : Ints w av args) (fuel : Int) :
    Calls Tryz.prog 10 #[.pointer (some ⟨pb, 0, none⟩), .pointer (some ⟨bf, 0, none⟩), av, .int .i64 fuel] w (EvGot w (evalP p fs args fuel)) := by
  obtain ⟨f, hfm, hff⟩ := hch.main
  obtain ⟨u, hu, hfind⟩ := sfind_at hp hfs mainW hff
  obtain ⟨q, nv, bv, av2, rfl, -, hqh, hb, hn, -, -, -, ht⟩ := id hu
  have hsn := Sl.of_own hn (by omega)
  have hln := Sl.run_len (P := Tryz.prog) hsn slStrs
  have hla := ha.run_len (P := Tryz.prog) slInts
  have hR : evalP p fs args fuel = if args.length ≠ f.names.length then .err 2 else if fuel < 0 ∨ 16384 < fuel then .err 3
    else match evT p fs fuel.toNat f.body (bindE (f.names.map (·.1)) (args.map (fof p))) fuel.toNat with
    | .ok v l => .val v (fuel.toNat - l)
    | .stop k => .err k := by unfold evalP; rw [hff]
  have x1 := Ext.alloc w (Obj.cells #[.int .i64 0, .int .i64 0] 36)
  have x2 := Ext.alloc (w.alloc (Obj.cells #[.int .i64 0, .int .i64 0] 36)) (Obj.cells #[.nilIface] 28)
  have s2 : ((w.alloc (Obj.cells #[.int .i64 0, .int .i64 0] 36)).alloc (Obj.cells #[.nilIface] 28)).heap.size = w.heap.size + 1 + 1 := by simp
  have B1 := (BlkOf.new w [.int .i64 0, .int .i64 0] 36).ext x2
  have B2 : BlkOf ((w.alloc (Obj.cells #[.int .i64 0, .int .i64 0] 36)).alloc (Obj.cells #[.nilIface] 28)) (w.heap.size + 1) [.nilIface] 28 := by
    have := BlkOf.new (w.alloc (Obj.cells #[.int .i64 0, .int .i64 0] 36)) [.nilIface] 28
    rw [show (w.alloc (Obj.cells #[.int .i64 0, .int .i64 0] 36)).heap.size = w.heap.size + 1 by simp] at this; exact this
  have HX := Lib.hid (x1.trans x2); have HS := Lib.hid s2; have HB1 := Lib.hid B1; have HB2 := Lib.hid B2
  have HF := Lib.hid hf; have HP := Lib.hid hp; have HFS := Lib.hid hfs; have HH := Lib.hid hhi; have HCH := Lib.hid hch; have HA := Lib.hid ha
  have HFM := Lib.hid hfm; have HU := Lib.hid hu; have HFD := Lib.hid hfind; have HR := Lib.hid hR
  have HQB : Hid (∀ W, Ext w W → W.cell? ⟨q, 1, none⟩ = some nv) := Lib.hid (fun W hW => hW.cell (hb.cell 1))
  clear x1 x2 s2 B1 B2 hf hp hfs hhi hch ha hfm hu hfind hR hb hn hsn ht
  generalize evalP p fs args fuel = R at *
  go_enter_defers Tryz.func10, Tryz.ntmps10
  go_upto_region 1 with fail
  generalize (w.alloc (Obj.cells #[.int .i64 0, .int .i64 0] 36)).alloc (Obj.cells #[.nilIface] 28) = V at *
  have hfnd := HFD.out V HX.out
  go_upto_region 2 with (go_at_call 31; refine hfnd.mono ?_; clear hfnd; rintro e w2 ⟨rfl, hx2⟩)
  have HX2 := Lib.hid (HX.out.trans hx2)
  have HV1 := Lib.hid (HB1.out.ext hx2); have HV2 := Lib.hid (HB2.out.ext hx2)
  have HS2 := Lib.hid (show w.heap.size + 1 + 1 ≤ w2.heap.size by rw [← HS.out]; exact hx2.size)
  clear hx2 HX HB1 HB2 HS
  obtain ⟨r, hr⟩ : ∃ r, w.heap.size = r := ⟨_, rfl⟩
  rw [hr] at HV1 HV2 HS2
  rw [hr]
  have HQ := Lib.hid hr
  clear hr
  have n1 := HQB.out w2 HX2.out
  have c1 : w2.cell? ⟨r, 0, none⟩ = some (.int .i64 0) := HV1.out.cell 0
  have c2 : w2.cell? ⟨r, 1, none⟩ = some (.int .i64 0) := HV1.out.cell 1
  have c3 : w2.cell? ⟨r + 1, 0, none⟩ = some .nilIface := HV2.out.cell 0
  have f1 := HV1.out.free 0
  have f2 := HV1.out.free 1
  have f3 := HV2.out.free 0
  by_cases hlen : args.length = f.names.length
  · have hne : ((args.length : Int) != (f.names.length : Int)) = false := by simp; omega
    have HLN := Lib.hid hlen
    by_cases hfl : fuel < 0 ∨ 16384 < fuel
    · have HR2 := Lib.hid (show R = .err 3 from by rw [HR.out, if_neg (by omega), if_pos hfl])
      have hd : decide (fuel < 0) = true ∨ (decide (fuel < 0) = false ∧ decide (fuel > 16384) = true) := by
        rcases hfl with h | h
        · exact .inl (decide_eq_true h)
        · by_cases h2 : fuel < 0
          · exact .inl (decide_eq_true h2)
          · exact .inr ⟨decide_eq_false h2, decide_eq_true h⟩
      clear hfl hlen
      have K := eval_put (u1 := .int .i64 0) (u2 := .int .i64 0) (u3 := .iface 60 (.int .i64 3)) HV1.out HV2.out (by omega)
      rcases hd with d1 | ⟨d1, d2⟩
      · go_wp2_with fail
        exact ⟨_, res_eval K.1 K.2.1 _ rfl rfl, EvGot.err HR2.out (K.2.2 w HX2.out (by rw [HQ.out]; exact Nat.le_refl _) (by rw [HQ.out]; omega))⟩
      · go_wp2_with fail
        exact ⟨_, res_eval K.1 K.2.1 _ rfl rfl, EvGot.err HR2.out (K.2.2 w HX2.out (by rw [HQ.out]; exact Nat.le_refl _) (by rw [HQ.out]; omega))⟩
    · obtain ⟨fu, rfl⟩ : ∃ fu : Nat, fuel = fu := ⟨fuel.toNat, by omega⟩
      have HR2 := Lib.hid (show R = match evT p fs fu f.body (bindE (f.names.map (·.1)) (args.map (fof p))) fu with
        | .ok v l => .val v (fu - l)
        | .stop k => .err k from by rw [HR.out, if_neg (by omega), if_neg hfl]; rfl)
      have d1 : decide ((fu : Int) < 0) = false := decide_eq_false (by omega)
      have d2 : decide ((fu : Int) > 16384) = false := decide_eq_false (by omega)
      have hfu : fu ≤ 16384 := by omega
      clear hfl HR hlen
      go_upto_region 8 with fail
      have HEV := Lib.hid (show EvC w2 bf w2.heap.size pb lo hi p g ff fs fv from ⟨HF.out.ext HX2.out, HP.out.ext HX2.out, HFS.out.ext HX2.out, Nat.le_trans HH.out HX2.out.size, Nat.le_refl _, HCH.out⟩)
      have hxb := Ext.alloc w2 (Obj.cells #[.pointer (some ⟨bf, 0, none⟩), .pointer (some ⟨pb, 0, none⟩), .int .i64 fu, .int .i64 0] 91)
      have HWK : Hid (WkAt (w2.alloc (Obj.cells #[.pointer (some ⟨bf, 0, none⟩), .pointer (some ⟨pb, 0, none⟩), .int .i64 fu, .int .i64 0] 91)) w2.heap.size bf pb fu fu) := Lib.hid ⟨0, by omega, BlkOf.new w2 [.pointer (some ⟨bf, 0, none⟩), .pointer (some ⟨pb, 0, none⟩), .int .i64 fu, .int .i64 0] 91⟩
      have HXB := Lib.hid hxb
      clear hxb n1 c1 c2 c3 f1 f2 f3 hne d1 d2
      generalize w2.alloc (Obj.cells #[.pointer (some ⟨bf, 0, none⟩), .pointer (some ⟨pb, 0, none⟩), .int .i64 fu, .int .i64 0] 91) = wB at *
      have hal := HA.out.len
      have hal2 : args.length ≤ 4000 := by have h1 := wei_mem HCH.out.wei HFM.out; unfold weiF at h1; have h2 := HLN.out; omega
      obtain ⟨aa, ac, eav⟩ := HA.out.shape
      subst eav
      go_upto_region 9 with (refine wpList_mk0 rfl _ _ 22 rfl slInts (Ext.refl wB) rfl rfl (by omega) (by omega) (by omega) ?_; intro v3 w3 HO3 HX3 _; have HO4 := Lib.hid HO3; have HX4 := Lib.hid HX3; clear HO3 HX3)
      go_wp2_with fail
      go_loopw [12, 14, 49] (fun x12 _ x49 wr => ∃ i : Nat, i ≤ args.length ∧ x49 = .int .i64 i ∧ Hid (wr.ownsRow wB.heap.size 3 1 x12 i (((args.take i).map (fof p)).map (Value.int .i64))) ∧ Hid (Ext wB wr)) (fun _ _ x49 _ => args.length - (intOf x49).toNat)
      case atStart => exact ⟨0, Nat.zero_le _, rfl, HO4, HX4⟩
      case round =>
        clear HO4 HX4
        obtain ⟨i, hi', rfl, HO, HX⟩ := hrel
        by_cases hlt : i < args.length
        · have HXR := Lib.hid ((HX2.out.trans HXB.out).trans HX.out)
          have hix := (HA.out.ext HXR.out).run_index (P := Tryz.prog) slInts i hlt
          have hcell := (HA.out.ext HXR.out).cell i hlt
          obtain ⟨x, hx⟩ : ∃ x, args[i]? = some x := ⟨_, List.getElem?_eq_getElem hlt⟩
          have hxn : nth args i = x := by rw [nth_eq hlt]; have := (List.getElem?_eq_some_iff.1 hx).2; exact this
          rw [hxn] at hcell
          have HOF := Lib.hid (of_any (HF.out.ext HXR.out) x)
          have HT := Lib.hid (show ((args.take (i + 1)).map (fof p)).map (Value.int .i64) = ((args.take i).map (fof p)).map (Value.int .i64) ++ [.int .i64 (fof p x)] from by rw [List.take_add_one, hx]; simp)
          obtain ⟨ao, cap, rfl⟩ := own_shape HO.out
          clear hx hxn
          go_wp2_with (first | (go_at_call 33; refine HOF.out.mono ?_; rintro e w9 ⟨rfl, m9, hm9⟩; have HXD := Lib.hid (show Ext wr w9 by rw [hm9]; exact Ext.drewN _ _); have HXE := Lib.hid (HX.out.trans HXD.out); have HOE := Lib.hid (own_kept HO.out (HXD.out.grownBy none) (fun A hA e => by cases e)); clear hm9) | (at_builtin; refine wpList_app1 rfl _ _ 22 rfl slInts rfl HXE.out HOE.out rfl _ rfl rfl (by omega) (by omega) ?_; intro v' w6 HO6 HX6 _; have HO7 := Lib.hid HO6; have HX7 := Lib.hid HX6; clear HO6 HX6))
          go_roundw
          case rel => exact ⟨i + 1, by omega, by go_num, Lib.hid (by rw [HT.out]; exact HO7.out), HX7⟩
          case measure => simp [intOf] <;> omega
        · obtain rfl : i = args.length := by omega
          rw [List.take_length] at HO
          have hrng : ∀ x ∈ args.map (fof p), 0 ≤ x ∧ x < p := fun x hx => by
            obtain ⟨a, -, rfl⟩ := List.mem_map.1 hx
            have := HF.out.lo
            exact ⟨Int.emod_nonneg _ (by omega), Int.emod_lt_of_pos _ (by omega)⟩
          obtain ⟨ao, cap, rfl⟩ := own_shape HO.out
          have HCL := Lib.hid (scall_any HEV.out (look_all HEV.out hfu fu) HFM.out (HU.out.ext HX2.out) (HXB.out.trans HX.out) (HWK.out.ext HX.out) (Nat.le_refl _) hfu (by rw [List.length_map]; have := HLN.out; omega) hrng (Ints.of_own HO.out))
          clear hrng
          go_wp2_with fail
          refine HCL.out.mono ?_
          clear HCL
          intro e w9 hG
          rcases hG.cases with ⟨x, l, hr, rfl, h1, h2, -, -, -⟩ | ⟨k, hr, h1, h2⟩
          · obtain ⟨k, hk, hbk⟩ := h2
            have HR9 := Lib.hid (show R = .val x k from by rw [HR2.out, hr]; show EvR.val x (fu - l) = _; rw [show fu - l = k by omega])
            have HXZ := Lib.hid (ext_new ((HX2.out.trans HXB.out).trans HX.out) h1 (fun A e => by have := Option.some.inj e; have := HX2.out.size; omega))
            have hv1 := ((HV1.out.ext (HXB.out.trans HX.out)).grown h1 (fun e => by have := Option.some.inj e; have := HS2.out; omega))
            have hv2 := ((HV2.out.ext (HXB.out.trans HX.out)).grown h1 (fun e => by have := Option.some.inj e; have := HS2.out; omega))
            have c1 : w9.cell? ⟨r, 0, none⟩ = some (.int .i64 0) := hv1.cell 0
            have c2 : w9.cell? ⟨r, 1, none⟩ = some (.int .i64 0) := hv1.cell 1
            have c3 : w9.cell? ⟨r + 1, 0, none⟩ = some .nilIface := hv2.cell 0
            have f1 := hv1.free 0
            have f2 := hv1.free 1
            have f3 := hv2.free 0
            have p3 : w9.cell? ⟨w2.heap.size, 3, none⟩ = some (.int .i64 k) := hbk.cell 3
            have K := eval_put (u1 := .int .i64 x) (u2 := .int .i64 k) (u3 := .nilIface) hv1 hv2 (by omega)
            have HK := Lib.hid K
            clear hG h1 hbk hr hv1 hv2 K
            go_wp2_with fail
            refine leaves_cons (f := 32) (args := #[.pointer (some ⟨r, 0, none⟩), .pointer (some ⟨r + 1, 0, none⟩)]) (by simp) (by simp [go_sem]) ?_
            refine (ecatch_idle _ _ _).mono ?_
            rintro e u' w3 ⟨rfl, rfl, rfl⟩
            exact ⟨_, res_eval HK.out.1 HK.out.2.1 _ rfl rfl, EvGot.val HR9.out (HK.out.2.2 w HXZ.out (by rw [HQ.out]; exact Nat.le_refl _) (by rw [HQ.out]; omega))⟩
          · have HR9 := Lib.hid (show R = .err k from by rw [HR2.out, hr])
            have HXZ := Lib.hid (ext_new ((HX2.out.trans HXB.out).trans HX.out) h2 (fun A e => by have := Option.some.inj e; have := HX2.out.size; omega))
            have HK1 := Lib.hid ((HV1.out.ext (HXB.out.trans HX.out)).grown h2 (fun e => by have := Option.some.inj e; have := HS2.out; omega))
            have HK2 := Lib.hid ((HV2.out.ext (HXB.out.trans HX.out)).grown h2 (fun e => by have := Option.some.inj e; have := HS2.out; omega))
            obtain rfl := h1
            clear hG h2 hr
            go_wp2_with fail
            refine leaves_cons (f := 32) (args := #[.pointer (some ⟨r, 0, none⟩), .pointer (some ⟨r + 1, 0, none⟩)]) (by simp) (by simp [go_sem]) ?_
            refine (ecatch_stops _ _ k [] _ HK1.out HK2.out (by omega)).mono ?_
            rintro e u' w3 ⟨rfl, rfl, z1, z2, zx⟩
            exact ⟨_, res_eval z1 z2 _ rfl rfl, EvGot.err HR9.out (zx w HXZ.out (by rw [HQ.out]; exact Nat.le_refl _) (by rw [HQ.out]; omega))⟩
  · have hne : ((args.length : Int) != (f.names.length : Int)) = true := by simp; omega
    have HR2 := Lib.hid (show R = .err 2 from by rw [HR.out, if_pos hlen])
    have K := eval_put (u1 := .int .i64 0) (u2 := .int .i64 0) (u3 := .iface 60 (.int .i64 2)) HV1.out HV2.out (by omega)
    clear hlen
    go_wp2_with fail
    exact ⟨_, res_eval K.1 K.2.1 _ rfl rfl, EvGot.err HR2.out (K.2.2 w HX2.out (by rw [HQ.out]; exact Nat.le_refl _) (by rw [HQ.out]; omega))⟩
end
end Go.Proofs.YtgnomhbbbcfehaaGreatDoor
