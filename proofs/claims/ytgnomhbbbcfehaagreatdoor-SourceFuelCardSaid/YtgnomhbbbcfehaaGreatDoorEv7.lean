/- A walker computes what a part comes to of what its parts come to: contract. Printed by wip/mkev7.py. -/
import Derived.Test.YtgnomhbbbcfehaaGreatDoorZx11
import Derived.Test.YtgnomhbbbcfehaaGreatDoorZx17
import Derived.Test.YtgnomhbbbcfehaaGreatDoorSs8
import Derived.Test.YtgnomhbbbcfehaaGreatDoorHa
namespace Go.Att
def endE (p : Int) (fs : List Fn) (n k : Nat) (s : List UInt8) (vs : List Int) (l : Nat) : Ev Int :=
  if k = 11 then match findF fs s with
    | none => .stop 0
    | some f => evT p fs n f.body (bindE (f.names.map (·.1)) vs) l
  else match compE p k vs with
    | none => .stop 7
    | some v => .ok v l
end Go.Att
namespace Go.Proofs.YtgnomhbbbcfehaaGreatDoor
open Go.RowKit Go.Att Go.Shelf
theorem neg_any {w : World} {f : Value} {p g : Int} {fs : List Int} (hf : Fld w f p g fs) (a : Int) : Calls Tryz.prog 140 #[f, .int .i64 a] w (Rd w (.int .i64 (fsub p 0 a))) := by
  have h := sub_any hf 0 a
  obtain ⟨b, rfl⟩ := hf.ptr
  clear hf
  go_enter Tryz.func140, Tryz.ntmps140
  go_wp2_with (go_at_call 137; refine h.mono ?_; clear h; rintro e w' ⟨rfl, m, rfl⟩)
  go_ret
  exact Rd.more _ rfl
theorem dvd_any {w : World} {f : Value} {p g : Int} {fs : List Int} (hf : Fld w f p g fs) (a b : Int) : Calls Tryz.prog 139 #[f, .int .i64 a, .int .i64 b] w (Rd w (.int .i64 (fdiv p a b))) := by
  have C := Lib.hid hf; clear hf
  go_enter Tryz.func139, Tryz.ntmps139
  go_wp2_with (first | (go_at_call 166; refine (inv_any C.out _).mono ?_; rintro e w' ⟨rfl, n, rfl⟩) | (go_at_call 138; refine (mul_any (C.out.drewN _) _ _).mono ?_; rintro e w' ⟨rfl, n2, rfl⟩))
  go_ret; exact .more _ rfl
section
variable {w0 w w' : World} {bf wb pb lo hi fuel n left : Nat} {p g : Int} {ff : List Int} {fs : List Att.Fn} {fv : Value}
theorem CpGot.num {r : Ev Int} {x : Int} (hr : r = .ok x left) (hwk : WkAt w wb bf pb fuel left) (hx : ∃ m, w' = w.drewN m) (h0 : 0 ≤ x) (h1 : x < p) : CpGot w wb bf pb fuel left p r (.returned (.int .i64 x)) w' := by
  subst hr
  obtain ⟨m, rfl⟩ := hx
  exact ⟨rfl, (Ext.drewN w m).grownBy _, hwk.ext (Ext.drewN w m), Nat.le_refl _, h0, h1⟩
theorem CpGot.stops {r : Ev Int} {k : Nat} {e : Ending} (hr : r = .stop k) (he : StopAt k e) (hx : ∃ m, w' = w.drewN m) : CpGot w wb bf pb fuel left p r e w' := by
  subst hr
  obtain ⟨m, rfl⟩ := hx
  exact ⟨he, (Ext.drewN w m).grownBy _⟩
set_option maxRecDepth 100000 in
set_option maxHeartbeats 4000000 in
theorem scomp_add {q pos : Nat} {num : Int} {s : List UInt8} {kv v : Value} {a b : Int} {r : Ev Int} (hf : Fld w (.pointer (some ⟨bf, 0, none⟩)) p g ff) (hb : BlkOf w q (pcells 2 num s kv pos) 152) (hwk : WkAt w wb bf pb fuel left) (hv : Ints w v [a, b])
    (hr : r = .ok (fadd p a b) left) (hrng : 0 ≤ (fadd p a b) ∧ (fadd p a b) < p) : Calls Tryz.prog 110 #[.pointer (some ⟨wb, 0, none⟩), .pointer (some ⟨q, 0, none⟩), v] w (CpGot w wb bf pb fuel left p r) := by
  have k0 : w.cell? ⟨q, 0, none⟩ = some (.int .i64 2) := hb.cell 0
  obtain ⟨kk, -, hbk⟩ := id hwk
  have c0 : w.cell? ⟨wb, 0, none⟩ = some (.pointer (some ⟨bf, 0, none⟩)) := hbk.cell 0
  have i0 : ∀ W, (Instr.indexAt 22 v (.int .i64 0)).run Tryz.prog W = .ok (.pointer (some (elt v 0 1))) W := fun W => hv.run_index slInts 0 (by simp) W
  have v0 : w.cell? (elt v 0 1) = some (.int .i64 a) := hv.cell 0 (by simp)
  have i1 : ∀ W, (Instr.indexAt 22 v (.int .i64 1)).run Tryz.prog W = .ok (.pointer (some (elt v 1 1))) W := fun W => hv.run_index slInts 1 (by simp) W
  have v1 : w.cell? (elt v 1 1) = some (.int .i64 b) := hv.cell 1 (by simp)
  have HF := Lib.hid hf; have HK := Lib.hid hwk; have HR := Lib.hid hr; have HG := Lib.hid hrng
  clear hf hb hwk hbk hv hr hrng
  go_enter Tryz.func110, Tryz.ntmps110
  go_upto_region 3 with fail
  go_quiet ((go_at_call 136; exact add_q HF.out _ _ _))
  go_wp2_with fail
  go_ret
  exact CpGot.num HR.out HK.out ⟨_, rfl⟩ HG.out.1 HG.out.2
set_option maxRecDepth 100000 in
set_option maxHeartbeats 4000000 in
theorem scomp_sub {q pos : Nat} {num : Int} {s : List UInt8} {kv v : Value} {a b : Int} {r : Ev Int} (hf : Fld w (.pointer (some ⟨bf, 0, none⟩)) p g ff) (hb : BlkOf w q (pcells 3 num s kv pos) 152) (hwk : WkAt w wb bf pb fuel left) (hv : Ints w v [a, b])
    (hr : r = .ok (fsub p a b) left) (hrng : 0 ≤ (fsub p a b) ∧ (fsub p a b) < p) : Calls Tryz.prog 110 #[.pointer (some ⟨wb, 0, none⟩), .pointer (some ⟨q, 0, none⟩), v] w (CpGot w wb bf pb fuel left p r) := by
  have k0 : w.cell? ⟨q, 0, none⟩ = some (.int .i64 3) := hb.cell 0
  obtain ⟨kk, -, hbk⟩ := id hwk
  have c0 : w.cell? ⟨wb, 0, none⟩ = some (.pointer (some ⟨bf, 0, none⟩)) := hbk.cell 0
  have i0 : ∀ W, (Instr.indexAt 22 v (.int .i64 0)).run Tryz.prog W = .ok (.pointer (some (elt v 0 1))) W := fun W => hv.run_index slInts 0 (by simp) W
  have v0 : w.cell? (elt v 0 1) = some (.int .i64 a) := hv.cell 0 (by simp)
  have i1 : ∀ W, (Instr.indexAt 22 v (.int .i64 1)).run Tryz.prog W = .ok (.pointer (some (elt v 1 1))) W := fun W => hv.run_index slInts 1 (by simp) W
  have v1 : w.cell? (elt v 1 1) = some (.int .i64 b) := hv.cell 1 (by simp)
  have HF := Lib.hid hf; have HK := Lib.hid hwk; have HR := Lib.hid hr; have HG := Lib.hid hrng
  clear hf hb hwk hbk hv hr hrng
  go_enter Tryz.func110, Tryz.ntmps110
  go_upto_region 5 with fail
  go_quiet ((go_at_call 137; exact sub_q HF.out _ _ _))
  go_wp2_with fail
  go_ret
  exact CpGot.num HR.out HK.out ⟨_, rfl⟩ HG.out.1 HG.out.2
set_option maxRecDepth 100000 in
set_option maxHeartbeats 4000000 in
theorem scomp_mul {q pos : Nat} {num : Int} {s : List UInt8} {kv v : Value} {a b : Int} {r : Ev Int} (hf : Fld w (.pointer (some ⟨bf, 0, none⟩)) p g ff) (hb : BlkOf w q (pcells 4 num s kv pos) 152) (hwk : WkAt w wb bf pb fuel left) (hv : Ints w v [a, b])
    (hr : r = .ok (fmul p a b) left) (hrng : 0 ≤ (fmul p a b) ∧ (fmul p a b) < p) : Calls Tryz.prog 110 #[.pointer (some ⟨wb, 0, none⟩), .pointer (some ⟨q, 0, none⟩), v] w (CpGot w wb bf pb fuel left p r) := by
  have k0 : w.cell? ⟨q, 0, none⟩ = some (.int .i64 4) := hb.cell 0
  obtain ⟨kk, -, hbk⟩ := id hwk
  have c0 : w.cell? ⟨wb, 0, none⟩ = some (.pointer (some ⟨bf, 0, none⟩)) := hbk.cell 0
  have i0 : ∀ W, (Instr.indexAt 22 v (.int .i64 0)).run Tryz.prog W = .ok (.pointer (some (elt v 0 1))) W := fun W => hv.run_index slInts 0 (by simp) W
  have v0 : w.cell? (elt v 0 1) = some (.int .i64 a) := hv.cell 0 (by simp)
  have i1 : ∀ W, (Instr.indexAt 22 v (.int .i64 1)).run Tryz.prog W = .ok (.pointer (some (elt v 1 1))) W := fun W => hv.run_index slInts 1 (by simp) W
  have v1 : w.cell? (elt v 1 1) = some (.int .i64 b) := hv.cell 1 (by simp)
  have HF := Lib.hid hf; have HK := Lib.hid hwk; have HR := Lib.hid hr; have HG := Lib.hid hrng
  clear hf hb hwk hbk hv hr hrng
  go_enter Tryz.func110, Tryz.ntmps110
  go_upto_region 7 with fail
  go_quiet ((go_at_call 138; exact mul_q HF.out _ _ _))
  go_wp2_with fail
  go_ret
  exact CpGot.num HR.out HK.out ⟨_, rfl⟩ HG.out.1 HG.out.2
set_option maxRecDepth 100000 in
set_option maxHeartbeats 4000000 in
theorem scomp_neg {q pos : Nat} {num : Int} {s : List UInt8} {kv v : Value} {a : Int} {r : Ev Int} (hf : Fld w (.pointer (some ⟨bf, 0, none⟩)) p g ff) (hb : BlkOf w q (pcells 7 num s kv pos) 152) (hwk : WkAt w wb bf pb fuel left) (hv : Ints w v [a])
    (hr : r = .ok (fsub p 0 a) left) (hrng : 0 ≤ (fsub p 0 a) ∧ (fsub p 0 a) < p) : Calls Tryz.prog 110 #[.pointer (some ⟨wb, 0, none⟩), .pointer (some ⟨q, 0, none⟩), v] w (CpGot w wb bf pb fuel left p r) := by
  have k0 : w.cell? ⟨q, 0, none⟩ = some (.int .i64 7) := hb.cell 0
  obtain ⟨kk, -, hbk⟩ := id hwk
  have c0 : w.cell? ⟨wb, 0, none⟩ = some (.pointer (some ⟨bf, 0, none⟩)) := hbk.cell 0
  have i0 : ∀ W, (Instr.indexAt 22 v (.int .i64 0)).run Tryz.prog W = .ok (.pointer (some (elt v 0 1))) W := fun W => hv.run_index slInts 0 (by simp) W
  have v0 : w.cell? (elt v 0 1) = some (.int .i64 a) := hv.cell 0 (by simp)
  have HF := Lib.hid hf; have HK := Lib.hid hwk; have HR := Lib.hid hr; have HG := Lib.hid hrng
  clear hf hb hwk hbk hv hr hrng
  go_enter Tryz.func110, Tryz.ntmps110
  go_upto_region 17 with fail
  go_quiet ((go_at_call 140; exact Calls.quiet_of (neg_any (HF.out.drewN _) _)))
  go_wp2_with fail
  go_ret
  exact CpGot.num HR.out HK.out ⟨_, rfl⟩ HG.out.1 HG.out.2
set_option maxRecDepth 100000 in
set_option maxHeartbeats 4000000 in
theorem scomp_div {q pos : Nat} {num : Int} {s : List UInt8} {kv v : Value} {a b : Int} {r : Ev Int} (hf : Fld w (.pointer (some ⟨bf, 0, none⟩)) p g ff) (hb : BlkOf w q (pcells 5 num s kv pos) 152) (hwk : WkAt w wb bf pb fuel left) (hv : Ints w v [a, b])
    (hb0 : b ≠ 0) (hr : r = .ok (fdiv p a b) left) (hrng : 0 ≤ (fdiv p a b) ∧ (fdiv p a b) < p) : Calls Tryz.prog 110 #[.pointer (some ⟨wb, 0, none⟩), .pointer (some ⟨q, 0, none⟩), v] w (CpGot w wb bf pb fuel left p r) := by
  have k0 : w.cell? ⟨q, 0, none⟩ = some (.int .i64 5) := hb.cell 0
  obtain ⟨kk, -, hbk⟩ := id hwk
  have c0 : w.cell? ⟨wb, 0, none⟩ = some (.pointer (some ⟨bf, 0, none⟩)) := hbk.cell 0
  have i0 : ∀ W, (Instr.indexAt 22 v (.int .i64 0)).run Tryz.prog W = .ok (.pointer (some (elt v 0 1))) W := fun W => hv.run_index slInts 0 (by simp) W
  have v0 : w.cell? (elt v 0 1) = some (.int .i64 a) := hv.cell 0 (by simp)
  have i1 : ∀ W, (Instr.indexAt 22 v (.int .i64 1)).run Tryz.prog W = .ok (.pointer (some (elt v 1 1))) W := fun W => hv.run_index slInts 1 (by simp) W
  have v1 : w.cell? (elt v 1 1) = some (.int .i64 b) := hv.cell 1 (by simp)
  have hbz : (b == 0) = false := by simpa using hb0
  have HF := Lib.hid hf; have HK := Lib.hid hwk; have HR := Lib.hid hr; have HG := Lib.hid hrng
  clear hf hb hwk hbk hv hr hrng
  go_enter Tryz.func110, Tryz.ntmps110
  go_upto_region 11 with fail
  go_quiet ((go_at_call 139; exact Calls.quiet_of (dvd_any (HF.out.drewN _) _ _)))
  go_wp2_with fail
  go_ret
  exact CpGot.num HR.out HK.out ⟨_, rfl⟩ HG.out.1 HG.out.2
set_option maxRecDepth 100000 in
set_option maxHeartbeats 4000000 in
theorem scomp_div0 {q pos : Nat} {num : Int} {s : List UInt8} {kv v : Value} {a : Int} {r : Ev Int} (hf : Fld w (.pointer (some ⟨bf, 0, none⟩)) p g ff) (hb : BlkOf w q (pcells 5 num s kv pos) 152) (hwk : WkAt w wb bf pb fuel left) (hv : Ints w v [a, 0])
    (hr : r = .stop 7) : Calls Tryz.prog 110 #[.pointer (some ⟨wb, 0, none⟩), .pointer (some ⟨q, 0, none⟩), v] w (CpGot w wb bf pb fuel left p r) := by
  have k0 : w.cell? ⟨q, 0, none⟩ = some (.int .i64 5) := hb.cell 0
  obtain ⟨kk, -, hbk⟩ := id hwk
  have c0 : w.cell? ⟨wb, 0, none⟩ = some (.pointer (some ⟨bf, 0, none⟩)) := hbk.cell 0
  have i0 : ∀ W, (Instr.indexAt 22 v (.int .i64 0)).run Tryz.prog W = .ok (.pointer (some (elt v 0 1))) W := fun W => hv.run_index slInts 0 (by simp) W
  have v0 : w.cell? (elt v 0 1) = some (.int .i64 a) := hv.cell 0 (by simp)
  have i1 : ∀ W, (Instr.indexAt 22 v (.int .i64 1)).run Tryz.prog W = .ok (.pointer (some (elt v 1 1))) W := fun W => hv.run_index slInts 1 (by simp) W
  have v1 : w.cell? (elt v 1 1) = some (.int .i64 0) := hv.cell 1 (by simp)
  have HF := Lib.hid hf; have HK := Lib.hid hwk; have HR := Lib.hid hr
  clear hf hb hwk hbk hv hr
  have hpn : ∀ (t : TypeId) (v : Value) (w : World), (Instr.panic (.iface t v)).run Tryz.prog w = .halt (.panic (.iface t v)) w := fun _ _ _ => rfl
  go_enter Tryz.func110, Tryz.ntmps110
  go_wp2_with fail
  exact ⟨rfl, CpGot.stops HR.out rfl ⟨0, rfl⟩⟩
set_option maxRecDepth 100000 in
set_option maxHeartbeats 4000000 in
theorem scomp_same {q pos : Nat} {num : Int} {s : List UInt8} {kv v : Value} {a b : Int} {r : Ev Int} (hf : Fld w (.pointer (some ⟨bf, 0, none⟩)) p g ff) (hb : BlkOf w q (pcells 6 num s kv pos) 152) (hwk : WkAt w wb bf pb fuel left) (hv : Ints w v [a, b])
    (hr : r = .ok (if a = b then 1 else 0) left) (hrng : 0 ≤ (if a = b then 1 else 0) ∧ (if a = b then 1 else 0) < p) : Calls Tryz.prog 110 #[.pointer (some ⟨wb, 0, none⟩), .pointer (some ⟨q, 0, none⟩), v] w (CpGot w wb bf pb fuel left p r) := by
  have k0 : w.cell? ⟨q, 0, none⟩ = some (.int .i64 6) := hb.cell 0
  obtain ⟨kk, -, hbk⟩ := id hwk
  have c0 : w.cell? ⟨wb, 0, none⟩ = some (.pointer (some ⟨bf, 0, none⟩)) := hbk.cell 0
  have i0 : ∀ W, (Instr.indexAt 22 v (.int .i64 0)).run Tryz.prog W = .ok (.pointer (some (elt v 0 1))) W := fun W => hv.run_index slInts 0 (by simp) W
  have v0 : w.cell? (elt v 0 1) = some (.int .i64 a) := hv.cell 0 (by simp)
  have i1 : ∀ W, (Instr.indexAt 22 v (.int .i64 1)).run Tryz.prog W = .ok (.pointer (some (elt v 1 1))) W := fun W => hv.run_index slInts 1 (by simp) W
  have v1 : w.cell? (elt v 1 1) = some (.int .i64 b) := hv.cell 1 (by simp)
  have HF := Lib.hid hf; have HK := Lib.hid hwk; have HR := Lib.hid hr; have HG := Lib.hid hrng
  clear hf hb hwk hbk hv hr hrng
  by_cases e : a = b
  · have HE := Lib.hid e
    have he : (a == b) = true := by simpa using e
    clear e
    go_enter Tryz.func110, Tryz.ntmps110
    go_upto_region 13 with fail
    go_quiet (fail)
    go_wp2_with fail
    go_ret
    exact CpGot.num (by rw [HR.out, if_pos HE.out]) HK.out ⟨_, rfl⟩ (by omega) (by simpa [HE.out] using HG.out.2)
  · have HE := Lib.hid e
    have he : (a == b) = false := by simpa using e
    clear e
    go_enter Tryz.func110, Tryz.ntmps110
    go_upto_region 13 with fail
    go_quiet (fail)
    go_wp2_with fail
    go_ret
    exact CpGot.num (by rw [HR.out, if_neg HE.out]) HK.out ⟨_, rfl⟩ (by omega) (by simpa [HE.out] using HG.out.2)
theorem grown_base {wa wc wd : World} {b : Nat} (hb : wa.heap.size ≤ b) (hx : Ext wa wc) (h : wc.grownBy wd (some b)) : Ext wa wd := Below.grown hx.below h hx.size (fun k e => by cases e; exact hb)
set_option maxRecDepth 100000 in
set_option maxHeartbeats 8000000 in
theorem scomp_call (C : EvC w0 bf wb pb lo hi p g ff fs fv) (HL : LookOk w0 bf wb pb lo hi fuel p fs n) {q pos : Nat} {num : Int} {s : List UInt8} {kv v : Value} {vs : List Int} {f : Att.Fn} (hf : f ∈ fs) (hff : findF fs s = some f) (hx : Ext w0 w) (hb : BlkOf w0 q (pcells 11 num s kv pos) 152) (hwk : WkAt w wb bf pb fuel left) (hln : left ≤ n) (hl2 : left ≤ 16384) (hlen : f.names.length = vs.length) (hvs : ∀ x ∈ vs, 0 ≤ x ∧ x < p) (hv : Ints w v vs) :
    Calls Tryz.prog 110 #[.pointer (some ⟨wb, 0, none⟩), .pointer (some ⟨q, 0, none⟩), v] w (CpGot w wb bf pb fuel left p (evT p fs n f.body (bindE (f.names.map (·.1)) vs) left)) := by
  obtain ⟨u, hu, hfind⟩ := sfind_at C.prog C.fns s hff
  have HFD := Lib.hid hfind; have HWB := Lib.hid C.wbk
  have HCL := Lib.hid (fun W (hW : Ext w0 W) (hk : WkAt W wb bf pb fuel left) (hv : Ints W v vs) => scall_any C HL hf hu hW hk hln hl2 hlen hvs hv)
  have k0 : w.cell? ⟨q, 0, none⟩ = some (.int .i64 11) := hx.cell (hb.cell 0)
  have HS2 : Hid (∀ W, Ext w0 W → W.cell? ⟨q, 2, none⟩ = some (.string ⟨s.toArray⟩)) := Lib.hid (fun W hW => hW.cell (hb.cell 2))
  have HX := Lib.hid hx; have HK := Lib.hid hwk; have HV := Lib.hid hv
  clear hfind C HL hf hff hx hb hwk hv hvs hlen hu
  generalize evT p fs n f.body (bindE (f.names.map (·.1)) vs) left = r at *
  go_enter Tryz.func110, Tryz.ntmps110
  go_upto_region 18 with fail
  refine wp_region_halt (fun c w'' => CpGot w wb bf pb fuel left p r (.panicked c) w'') ?_ ?_
  · intro c a w'' hd hR
    go_wp2_with fail
    exact ⟨hd, hR⟩
  clear k0
  cases r with
  | ok x l =>
    refine wp_region_eqs 13 rfl [some (.pointer (some ⟨wb, 0, none⟩)), some (.pointer (some ⟨wb, 0, none⟩)), some (.pointer (some ⟨wb, 0, none⟩)), some (.pointer (some ⟨wb, 1, none⟩)), some (.pointer (some ⟨pb, 0, none⟩)), some (.pointer (some ⟨q, 0, none⟩)), some (.pointer (some ⟨q, 0, none⟩)), some (.pointer (some ⟨q, 2, none⟩)), some (.string ⟨s.toArray⟩), some u, some v, some (.int .i64 x), some (.int .i64 x)] [11] (fun k W => Ext w0 W ∧ (∃ l, WkAt W wb bf pb fuel l) ∧ (k = 0 → Ext w W ∧ WkAt W wb bf pb fuel left) ∧ (k = 1 → w.grownBy W (some wb) ∧ WkAt W wb bf pb fuel l ∧ l ≤ left ∧ 0 ≤ x ∧ x < p)) (by kernel_rfl) (by kernel_rfl) (by kernel_rfl) (by kernel_rfl) (fun k W W' h hg => ⟨h.1.trans (ext_gn hg), h.2.1.imp fun l h => h.ext (ext_gn hg), fun e => ⟨(h.2.2.1 e).1.trans (ext_gn hg), (h.2.2.1 e).2.ext (ext_gn hg)⟩, fun e => ⟨grown_ext (h.2.2.2 e).1 (ext_gn hg), (h.2.2.2 e).2.1.ext (ext_gn hg), (h.2.2.2 e).2.2⟩⟩) (⟨HX.out.trans (Ext.drew _), ⟨_, HK.out.ext (Ext.drew _)⟩, fun _ => ⟨Ext.drew _, HK.out.ext (Ext.drew _)⟩, fun h => (by cases h)⟩) ?_ ?_
    · refine ⟨?_, ?_, ?_, ?_, ?_, ?_, ?_, ?_, ?_, ?_, ?_, ?_, ?_, trivial⟩
      · refine bifF rfl (FreeStep.mk rfl fun vs W hk hd => ?_)
        clear hd
        obtain ⟨kk, hS⟩ := hk
        simp only [fillA, fillL, dstL, List.take_succ_cons, List.take_zero, List.filterMap_cons, List.filterMap_nil, List.contains_cons, List.contains_nil, Nat.reduceAdd, Nat.zero_add, Nat.reduceBEq, Bool.or_false, Bool.or_true, Bool.false_eq_true, ↓reduceIte]
        go_wp2_with fail
        exact ⟨by trivial, World.grownBy.refl _ _, rfl⟩
      · refine bifF rfl (FreeStep.mk rfl fun vs W hk hd => ?_)
        clear hd
        obtain ⟨kk, hS⟩ := hk
        simp only [fillA, fillL, dstL, List.take_succ_cons, List.take_zero, List.filterMap_cons, List.filterMap_nil, List.contains_cons, List.contains_nil, Nat.reduceAdd, Nat.zero_add, Nat.reduceBEq, Bool.or_false, Bool.or_true, Bool.false_eq_true, ↓reduceIte]
        go_wp2_with fail
        exact ⟨by trivial, World.grownBy.refl _ _, rfl⟩
      · refine bifF rfl (FreeStep.mk rfl fun vs W hk hd => ?_)
        have e89 : vs 89 = (.pointer (some ⟨wb, 0, none⟩)) := hd 1 (by kernel_rfl)
        clear hd
        obtain ⟨kk, hS⟩ := hk
        simp only [fillA, fillL, dstL, List.take_succ_cons, List.take_zero, List.filterMap_cons, List.filterMap_nil, List.contains_cons, List.contains_nil, Nat.reduceAdd, Nat.zero_add, Nat.reduceBEq, Bool.or_false, Bool.or_true, Bool.false_eq_true, ↓reduceIte]
        rw [e89]
        go_wp2_with fail
        exact ⟨by trivial, World.grownBy.refl _ _, rfl⟩
      · refine bifF rfl (FreeStep.mk rfl fun vs W hk hd => ?_)
        have e90 : vs 90 = (.pointer (some ⟨wb, 0, none⟩)) := hd 2 (by kernel_rfl)
        clear hd
        obtain ⟨kk, hS⟩ := hk
        simp only [fillA, fillL, dstL, List.take_succ_cons, List.take_zero, List.filterMap_cons, List.filterMap_nil, List.contains_cons, List.contains_nil, Nat.reduceAdd, Nat.zero_add, Nat.reduceBEq, Bool.or_false, Bool.or_true, Bool.false_eq_true, ↓reduceIte]
        rw [e90]
        go_wp2_with fail
        exact ⟨by trivial, World.grownBy.refl _ _, rfl⟩
      · refine bifF rfl (FreeStep.mk rfl fun vs W hk hd => ?_)
        have e91 : vs 91 = (.pointer (some ⟨wb, 1, none⟩)) := hd 3 (by kernel_rfl)
        clear hd
        obtain ⟨kk, hS⟩ := hk
        simp only [fillA, fillL, dstL, List.take_succ_cons, List.take_zero, List.filterMap_cons, List.filterMap_nil, List.contains_cons, List.contains_nil, Nat.reduceAdd, Nat.zero_add, Nat.reduceBEq, Bool.or_false, Bool.or_true, Bool.false_eq_true, ↓reduceIte]
        rw [e91]
        obtain ⟨lk, kw, -, hbw⟩ := hS.2.1
        have c1 : W.cell? ⟨wb, 1, none⟩ = some (.pointer (some ⟨pb, 0, none⟩)) := hbw.cell 1
        clear hbw
        go_wp2_with fail
        exact ⟨by trivial, World.grownBy.refl _ _, rfl⟩
      · refine bifF rfl (FreeStep.mk rfl fun vs W hk hd => ?_)
        clear hd
        obtain ⟨kk, hS⟩ := hk
        simp only [fillA, fillL, dstL, List.take_succ_cons, List.take_zero, List.filterMap_cons, List.filterMap_nil, List.contains_cons, List.contains_nil, Nat.reduceAdd, Nat.zero_add, Nat.reduceBEq, Bool.or_false, Bool.or_true, Bool.false_eq_true, ↓reduceIte]
        go_wp2_with fail
        exact ⟨by trivial, World.grownBy.refl _ _, rfl⟩
      · refine bifF rfl (FreeStep.mk rfl fun vs W hk hd => ?_)
        have e93 : vs 93 = (.pointer (some ⟨q, 0, none⟩)) := hd 5 (by kernel_rfl)
        clear hd
        obtain ⟨kk, hS⟩ := hk
        simp only [fillA, fillL, dstL, List.take_succ_cons, List.take_zero, List.filterMap_cons, List.filterMap_nil, List.contains_cons, List.contains_nil, Nat.reduceAdd, Nat.zero_add, Nat.reduceBEq, Bool.or_false, Bool.or_true, Bool.false_eq_true, ↓reduceIte]
        rw [e93]
        go_wp2_with fail
        exact ⟨by trivial, World.grownBy.refl _ _, rfl⟩
      · refine bifF rfl (FreeStep.mk rfl fun vs W hk hd => ?_)
        have e94 : vs 94 = (.pointer (some ⟨q, 0, none⟩)) := hd 6 (by kernel_rfl)
        clear hd
        obtain ⟨kk, hS⟩ := hk
        simp only [fillA, fillL, dstL, List.take_succ_cons, List.take_zero, List.filterMap_cons, List.filterMap_nil, List.contains_cons, List.contains_nil, Nat.reduceAdd, Nat.zero_add, Nat.reduceBEq, Bool.or_false, Bool.or_true, Bool.false_eq_true, ↓reduceIte]
        rw [e94]
        go_wp2_with fail
        exact ⟨by trivial, World.grownBy.refl _ _, rfl⟩
      · refine bifF rfl (FreeStep.mk rfl fun vs W hk hd => ?_)
        have e95 : vs 95 = (.pointer (some ⟨q, 2, none⟩)) := hd 7 (by kernel_rfl)
        clear hd
        obtain ⟨kk, hS⟩ := hk
        simp only [fillA, fillL, dstL, List.take_succ_cons, List.take_zero, List.filterMap_cons, List.filterMap_nil, List.contains_cons, List.contains_nil, Nat.reduceAdd, Nat.zero_add, Nat.reduceBEq, Bool.or_false, Bool.or_true, Bool.false_eq_true, ↓reduceIte]
        rw [e95]
        have c2 := HS2.out W hS.1
        go_wp2_with fail
        exact ⟨by trivial, World.grownBy.refl _ _, rfl⟩
      · refine bifF rfl (FreeStep.mk rfl fun vs W hk hd => ?_)
        have e92 : vs 92 = (.pointer (some ⟨pb, 0, none⟩)) := hd 4 (by kernel_rfl)
        have e96 : vs 96 = (.string ⟨s.toArray⟩) := hd 8 (by kernel_rfl)
        clear hd
        obtain ⟨kk, hS⟩ := hk
        simp only [fillA, fillL, dstL, List.take_succ_cons, List.take_zero, List.filterMap_cons, List.filterMap_nil, List.contains_cons, List.contains_nil, Nat.reduceAdd, Nat.zero_add, Nat.reduceBEq, Bool.or_false, Bool.or_true, Bool.false_eq_true, ↓reduceIte]
        rw [e92, e96]
        have hfind := HFD.out W hS.1
        go_wp2_with (go_at_call 31; refine hfind.mono ?_; clear hfind; rintro e w3 ⟨rfl, hx3⟩)
        exact ⟨by trivial, hx3.grownBy none, rfl⟩
      · refine bifF rfl (FreeStep.mk rfl fun vs W hk hd => ?_)
        clear hd
        obtain ⟨kk, hS⟩ := hk
        simp only [fillA, fillL, dstL, List.take_succ_cons, List.take_zero, List.filterMap_cons, List.filterMap_nil, List.contains_cons, List.contains_nil, Nat.reduceAdd, Nat.zero_add, Nat.reduceBEq, Bool.or_false, Bool.or_true, Bool.false_eq_true, ↓reduceIte]
        go_wp2_with fail
        exact ⟨by trivial, World.grownBy.refl _ _, rfl⟩
      · refine bifT rfl (LinkStep.mk rfl fun vs W hS hd => ?_)
        have e88 : vs 88 = (.pointer (some ⟨wb, 0, none⟩)) := hd 0 (by kernel_rfl)
        have e97 : vs 97 = u := hd 9 (by kernel_rfl)
        have e98 : vs 98 = v := hd 10 (by kernel_rfl)
        clear hd
        simp only [fillA, fillL, dstL, List.take_succ_cons, List.take_zero, List.filterMap_cons, List.filterMap_nil, List.contains_cons, List.contains_nil, Nat.reduceAdd, Nat.zero_add, Nat.reduceBEq, Bool.or_false, Bool.or_true, Bool.false_eq_true, ↓reduceIte]
        rw [e88, e97, e98]
        have hW := hS.2.2.1 rfl
        have hcall := HCL.out W hS.1 hW.2 (HV.out.ext hW.1)
        go_wp2_with (go_at_call 34; refine hcall.mono ?_; clear hcall; rintro e w3 ⟨rfl, h1, h2, h3, h4, h5⟩)
        exact ⟨by trivial, trivial, ⟨grown_base HWB.out hS.1 h1, ⟨_, h2⟩, fun h => (by cases h), fun _ => ⟨grown_one (hW.1.grownBy _) h1, h2, h3, h4, h5⟩⟩, rfl⟩
      · refine bifF rfl (FreeStep.mk rfl fun vs W hk hd => ?_)
        have e99 : vs 99 = (.int .i64 x) := hd 11 (by kernel_rfl)
        clear hd
        obtain ⟨kk, hS⟩ := hk
        simp only [fillA, fillL, dstL, List.take_succ_cons, List.take_zero, List.filterMap_cons, List.filterMap_nil, List.contains_cons, List.contains_nil, Nat.reduceAdd, Nat.zero_add, Nat.reduceBEq, Bool.or_false, Bool.or_true, Bool.false_eq_true, ↓reduceIte]
        rw [e99]
        go_wp2_with fail
        exact ⟨by trivial, World.grownBy.refl _ _, rfl⟩
    · intro vs W hall hS
      have hres := hS.2.2.2 rfl
      have e6 : vs 6 = (.int .i64 x) := hall.at 12 (by omega) rfl
      clear hall hS
      have HRS := Lib.hid hres
      clear hres
      refine OrHalt.normal ?_
      simp only [fillA, fillL, dstL, List.take_succ_cons, List.take_zero, List.filterMap_cons, List.filterMap_nil, List.contains_cons, List.contains_nil, Nat.reduceAdd, Nat.zero_add, Nat.reduceBEq, Bool.or_false, Bool.or_true, Bool.false_eq_true, ↓reduceIte]
      rw [e6]
      go_wp2_with fail
      go_ret
      exact ⟨rfl, HRS.out⟩
  | stop k =>
    refine wp_region_eqs 13 rfl [some (.pointer (some ⟨wb, 0, none⟩)), some (.pointer (some ⟨wb, 0, none⟩)), some (.pointer (some ⟨wb, 0, none⟩)), some (.pointer (some ⟨wb, 1, none⟩)), some (.pointer (some ⟨pb, 0, none⟩)), some (.pointer (some ⟨q, 0, none⟩)), some (.pointer (some ⟨q, 0, none⟩)), some (.pointer (some ⟨q, 2, none⟩)), some (.string ⟨s.toArray⟩), some u, some v, some (.int .i64 0), some (.int .i64 0)] [11] (fun k W => Ext w0 W ∧ (∃ l, WkAt W wb bf pb fuel l) ∧ (k = 0 → Ext w W ∧ WkAt W wb bf pb fuel left) ∧ (k = 1 → False)) (by kernel_rfl) (by kernel_rfl) (by kernel_rfl) (by kernel_rfl) (fun k W W' h hg => ⟨h.1.trans (ext_gn hg), h.2.1.imp fun l h => h.ext (ext_gn hg), fun e => ⟨(h.2.2.1 e).1.trans (ext_gn hg), (h.2.2.1 e).2.ext (ext_gn hg)⟩, h.2.2.2⟩) (⟨HX.out.trans (Ext.drew _), ⟨_, HK.out.ext (Ext.drew _)⟩, fun _ => ⟨Ext.drew _, HK.out.ext (Ext.drew _)⟩, fun h => (by cases h)⟩) ?_ ?_
    · refine ⟨?_, ?_, ?_, ?_, ?_, ?_, ?_, ?_, ?_, ?_, ?_, ?_, ?_, trivial⟩
      · refine bifF rfl (FreeStep.mk rfl fun vs W hk hd => ?_)
        clear hd
        obtain ⟨kk, hS⟩ := hk
        simp only [fillA, fillL, dstL, List.take_succ_cons, List.take_zero, List.filterMap_cons, List.filterMap_nil, List.contains_cons, List.contains_nil, Nat.reduceAdd, Nat.zero_add, Nat.reduceBEq, Bool.or_false, Bool.or_true, Bool.false_eq_true, ↓reduceIte]
        go_wp2_with fail
        exact ⟨by trivial, World.grownBy.refl _ _, rfl⟩
      · refine bifF rfl (FreeStep.mk rfl fun vs W hk hd => ?_)
        clear hd
        obtain ⟨kk, hS⟩ := hk
        simp only [fillA, fillL, dstL, List.take_succ_cons, List.take_zero, List.filterMap_cons, List.filterMap_nil, List.contains_cons, List.contains_nil, Nat.reduceAdd, Nat.zero_add, Nat.reduceBEq, Bool.or_false, Bool.or_true, Bool.false_eq_true, ↓reduceIte]
        go_wp2_with fail
        exact ⟨by trivial, World.grownBy.refl _ _, rfl⟩
      · refine bifF rfl (FreeStep.mk rfl fun vs W hk hd => ?_)
        have e89 : vs 89 = (.pointer (some ⟨wb, 0, none⟩)) := hd 1 (by kernel_rfl)
        clear hd
        obtain ⟨kk, hS⟩ := hk
        simp only [fillA, fillL, dstL, List.take_succ_cons, List.take_zero, List.filterMap_cons, List.filterMap_nil, List.contains_cons, List.contains_nil, Nat.reduceAdd, Nat.zero_add, Nat.reduceBEq, Bool.or_false, Bool.or_true, Bool.false_eq_true, ↓reduceIte]
        rw [e89]
        go_wp2_with fail
        exact ⟨by trivial, World.grownBy.refl _ _, rfl⟩
      · refine bifF rfl (FreeStep.mk rfl fun vs W hk hd => ?_)
        have e90 : vs 90 = (.pointer (some ⟨wb, 0, none⟩)) := hd 2 (by kernel_rfl)
        clear hd
        obtain ⟨kk, hS⟩ := hk
        simp only [fillA, fillL, dstL, List.take_succ_cons, List.take_zero, List.filterMap_cons, List.filterMap_nil, List.contains_cons, List.contains_nil, Nat.reduceAdd, Nat.zero_add, Nat.reduceBEq, Bool.or_false, Bool.or_true, Bool.false_eq_true, ↓reduceIte]
        rw [e90]
        go_wp2_with fail
        exact ⟨by trivial, World.grownBy.refl _ _, rfl⟩
      · refine bifF rfl (FreeStep.mk rfl fun vs W hk hd => ?_)
        have e91 : vs 91 = (.pointer (some ⟨wb, 1, none⟩)) := hd 3 (by kernel_rfl)
        clear hd
        obtain ⟨kk, hS⟩ := hk
        simp only [fillA, fillL, dstL, List.take_succ_cons, List.take_zero, List.filterMap_cons, List.filterMap_nil, List.contains_cons, List.contains_nil, Nat.reduceAdd, Nat.zero_add, Nat.reduceBEq, Bool.or_false, Bool.or_true, Bool.false_eq_true, ↓reduceIte]
        rw [e91]
        obtain ⟨lk, kw, -, hbw⟩ := hS.2.1
        have c1 : W.cell? ⟨wb, 1, none⟩ = some (.pointer (some ⟨pb, 0, none⟩)) := hbw.cell 1
        clear hbw
        go_wp2_with fail
        exact ⟨by trivial, World.grownBy.refl _ _, rfl⟩
      · refine bifF rfl (FreeStep.mk rfl fun vs W hk hd => ?_)
        clear hd
        obtain ⟨kk, hS⟩ := hk
        simp only [fillA, fillL, dstL, List.take_succ_cons, List.take_zero, List.filterMap_cons, List.filterMap_nil, List.contains_cons, List.contains_nil, Nat.reduceAdd, Nat.zero_add, Nat.reduceBEq, Bool.or_false, Bool.or_true, Bool.false_eq_true, ↓reduceIte]
        go_wp2_with fail
        exact ⟨by trivial, World.grownBy.refl _ _, rfl⟩
      · refine bifF rfl (FreeStep.mk rfl fun vs W hk hd => ?_)
        have e93 : vs 93 = (.pointer (some ⟨q, 0, none⟩)) := hd 5 (by kernel_rfl)
        clear hd
        obtain ⟨kk, hS⟩ := hk
        simp only [fillA, fillL, dstL, List.take_succ_cons, List.take_zero, List.filterMap_cons, List.filterMap_nil, List.contains_cons, List.contains_nil, Nat.reduceAdd, Nat.zero_add, Nat.reduceBEq, Bool.or_false, Bool.or_true, Bool.false_eq_true, ↓reduceIte]
        rw [e93]
        go_wp2_with fail
        exact ⟨by trivial, World.grownBy.refl _ _, rfl⟩
      · refine bifF rfl (FreeStep.mk rfl fun vs W hk hd => ?_)
        have e94 : vs 94 = (.pointer (some ⟨q, 0, none⟩)) := hd 6 (by kernel_rfl)
        clear hd
        obtain ⟨kk, hS⟩ := hk
        simp only [fillA, fillL, dstL, List.take_succ_cons, List.take_zero, List.filterMap_cons, List.filterMap_nil, List.contains_cons, List.contains_nil, Nat.reduceAdd, Nat.zero_add, Nat.reduceBEq, Bool.or_false, Bool.or_true, Bool.false_eq_true, ↓reduceIte]
        rw [e94]
        go_wp2_with fail
        exact ⟨by trivial, World.grownBy.refl _ _, rfl⟩
      · refine bifF rfl (FreeStep.mk rfl fun vs W hk hd => ?_)
        have e95 : vs 95 = (.pointer (some ⟨q, 2, none⟩)) := hd 7 (by kernel_rfl)
        clear hd
        obtain ⟨kk, hS⟩ := hk
        simp only [fillA, fillL, dstL, List.take_succ_cons, List.take_zero, List.filterMap_cons, List.filterMap_nil, List.contains_cons, List.contains_nil, Nat.reduceAdd, Nat.zero_add, Nat.reduceBEq, Bool.or_false, Bool.or_true, Bool.false_eq_true, ↓reduceIte]
        rw [e95]
        have c2 := HS2.out W hS.1
        go_wp2_with fail
        exact ⟨by trivial, World.grownBy.refl _ _, rfl⟩
      · refine bifF rfl (FreeStep.mk rfl fun vs W hk hd => ?_)
        have e92 : vs 92 = (.pointer (some ⟨pb, 0, none⟩)) := hd 4 (by kernel_rfl)
        have e96 : vs 96 = (.string ⟨s.toArray⟩) := hd 8 (by kernel_rfl)
        clear hd
        obtain ⟨kk, hS⟩ := hk
        simp only [fillA, fillL, dstL, List.take_succ_cons, List.take_zero, List.filterMap_cons, List.filterMap_nil, List.contains_cons, List.contains_nil, Nat.reduceAdd, Nat.zero_add, Nat.reduceBEq, Bool.or_false, Bool.or_true, Bool.false_eq_true, ↓reduceIte]
        rw [e92, e96]
        have hfind := HFD.out W hS.1
        go_wp2_with (go_at_call 31; refine hfind.mono ?_; clear hfind; rintro e w3 ⟨rfl, hx3⟩)
        exact ⟨by trivial, hx3.grownBy none, rfl⟩
      · refine bifF rfl (FreeStep.mk rfl fun vs W hk hd => ?_)
        clear hd
        obtain ⟨kk, hS⟩ := hk
        simp only [fillA, fillL, dstL, List.take_succ_cons, List.take_zero, List.filterMap_cons, List.filterMap_nil, List.contains_cons, List.contains_nil, Nat.reduceAdd, Nat.zero_add, Nat.reduceBEq, Bool.or_false, Bool.or_true, Bool.false_eq_true, ↓reduceIte]
        go_wp2_with fail
        exact ⟨by trivial, World.grownBy.refl _ _, rfl⟩
      · refine bifT rfl (LinkStep.mk rfl fun vs W hS hd => ?_)
        have e88 : vs 88 = (.pointer (some ⟨wb, 0, none⟩)) := hd 0 (by kernel_rfl)
        have e97 : vs 97 = u := hd 9 (by kernel_rfl)
        have e98 : vs 98 = v := hd 10 (by kernel_rfl)
        clear hd
        simp only [fillA, fillL, dstL, List.take_succ_cons, List.take_zero, List.filterMap_cons, List.filterMap_nil, List.contains_cons, List.contains_nil, Nat.reduceAdd, Nat.zero_add, Nat.reduceBEq, Bool.or_false, Bool.or_true, Bool.false_eq_true, ↓reduceIte]
        rw [e88, e97, e98]
        have hW := hS.2.2.1 rfl
        have hcall := HCL.out W hS.1 hW.2 (HV.out.ext hW.1)
        go_wp2_with (go_at_call 34; refine hcall.mono ?_; clear hcall; rintro e w3 ⟨rfl, h1⟩)
        exact OrHalt.panic rfl ⟨rfl, grown_one (hW.1.grownBy _) h1⟩
      · refine bifF rfl (FreeStep.mk rfl fun vs W hk hd => ?_)
        have e99 : vs 99 = (.int .i64 0) := hd 11 (by kernel_rfl)
        clear hd
        obtain ⟨kk, hS⟩ := hk
        simp only [fillA, fillL, dstL, List.take_succ_cons, List.take_zero, List.filterMap_cons, List.filterMap_nil, List.contains_cons, List.contains_nil, Nat.reduceAdd, Nat.zero_add, Nat.reduceBEq, Bool.or_false, Bool.or_true, Bool.false_eq_true, ↓reduceIte]
        rw [e99]
        go_wp2_with fail
        exact ⟨by trivial, World.grownBy.refl _ _, rfl⟩
    · intro vs W hall hS
      exact (hS.2.2.2 rfl).elim
end
end Go.Proofs.YtgnomhbbbcfehaaGreatDoor
