/- A text's reader, the program's side: numbers by the library: contract. The program's machine: a stop that is caught. -/
import Derived.Test.YtgnomhbbbcfehaaGreatDoorSs9
import Derived.Shelf.Strconv.ErrVarAll
import Derived.Test.YtgnomhbbbcfehaaGreatDoorM8
import Derived.Defers
import Derived.Recover
section
namespace Go.Att
open Go.RowKit
theorem var_ext {P : Program} {w w' : World} (hx : Ext w w') {name : String} {cs : Array Value} (h : w.var? P name = some cs) : w'.var? P name = some cs := by
  unfold World.var? at h ⊢
  cases e : P.globalNamed name with
  | none => rw [e] at h; cases h
  | some g =>
    rw [e] at h
    simp only [Option.bind_some] at h ⊢
    have hg : g < w.heap.size := by
      rcases Nat.lt_or_ge g w.heap.size with h1 | h1
      · exact h1
      · rw [Array.getElem?_eq_none h1] at h; cases h
    rw [hx.below.block g hg]; exact h
def illE {α : Type} : Lib.NumEnd α → Bool
  | .ok _ => false
  | .range => false
  | _ => true
theorem parse10_dig : ∀ (l : List UInt8) (acc : Nat), l.all digC = true → illE (Lib.parseUint10 acc l) = false
  | [], acc, _ => by simp [Lib.parseUint10, illE]
  | c :: l, acc, h => by
    simp only [List.all_cons, Bool.and_eq_true] at h
    have hc := h.1
    unfold digC at hc
    simp only [Bool.and_eq_true, decide_eq_true_eq] at hc
    rw [Lib.parseUint10, if_pos ⟨hc.1, hc.2⟩]
    split
    · rfl
    · split
      · rfl
      · exact parse10_dig l _ h.2
theorem atoi_dig {s : List UInt8} (hk : kindW s = 2) (hne : s ≠ []) : illE (Lib.atoiAll s) = false := by
  cases s with
  | nil => exact absurd rfl hne
  | cons c r =>
    unfold kindW at hk
    split at hk
    · cases hk
    · split at hk
      · rename_i h1 h2
        rw [Bool.and_eq_true] at h2
        have h3 := h2.1
        have hc := h3
        simp only [List.all_cons, Bool.and_eq_true] at hc
        have hc := hc.1
        unfold digC at hc
        simp only [Bool.and_eq_true, decide_eq_true_eq] at hc
        rw [Lib.atoiAll_plain c r (by omega) (by omega)]
        have h4 := parse10_dig _ 0 h3
        unfold Lib.parseMag
        rw [if_neg (by simp)]
        unfold Lib.signless
        split
        · rename_i e; rw [e] at h4; cases h4
        · rfl
        · split <;> rfl
      · cases hk
end Go.Att
namespace Go.Proofs.YtgnomhbbbcfehaaGreatDoor
open Go.RowKit Go.Att Go.Shelf
def Tryz.laysAtoi_ren : Go.Shelf.Ren := ⟨fun | 172 => 185 | 244 => 198 | 245 => 199 | 247 => 202 | 279 => 203 | 280 => 204 | 281 => 205 | 282 => 206 | 287 => 207 | 316 => 208 | 171 => 74 | 205 => 209 | 321 => 210 | 322 => 211 | 243 => 115 | 246 => 145 | 283 => 168 | 284 => 169 | 285 => 170 | 286 => 171 | 129 => 159 | 317 => 190 | 318 => 191 | 319 => 192 | 320 => 193 | 337 => 200 | 338 => 201 | n => n, fun | 9 => 9 | 3 => 3 | 75 => 28 | 76 => 102 | 4 => 4 | 5 => 5 | 167 => 263 | 37 => 99 | 0 => 0 | 85 => 264 | 2 => 2 | 168 => 266 | 53 => 235 | 175 => 271 | 46 => 195 | 210 => 275 | 127 => 153 | 145 => 280 | 143 => 278 | 21 => 21 | 171 => 239 | 173 => 241 | 212 => 252 | 51 => 233 | 20 => 20 | 213 => 253 | 232 => 269 | 233 => 270 | 80 => 42 | n => n, fun | 15 => 7 | 16 => 8 | 17 => 2 | 18 => 5 | 19 => 6 | n => n⟩
theorem Tryz.laysAtoi : Go.Proofs.LaysC.n172 Tryz.prog Tryz.laysAtoi_ren := {
  mixed := by kernel_rfl,
  f129 := Tryz.func159.trans (congrArg some (by kernel_rfl)),
  f171 := Tryz.func74.trans (congrArg some (by kernel_rfl)),
  f172 := Tryz.func185.trans (congrArg some (by kernel_rfl)),
  f205 := Tryz.func209.trans (congrArg some (by kernel_rfl)),
  f243 := Tryz.func115.trans (congrArg some (by kernel_rfl)),
  f244 := Tryz.func198.trans (congrArg some (by kernel_rfl)),
  f245 := Tryz.func199.trans (congrArg some (by kernel_rfl)),
  f246 := Tryz.func145.trans (congrArg some (by kernel_rfl)),
  f247 := Tryz.func202.trans (congrArg some (by kernel_rfl)),
  f279 := Tryz.func203.trans (congrArg some (by kernel_rfl)),
  f280 := Tryz.func204.trans (congrArg some (by kernel_rfl)),
  f281 := Tryz.func205.trans (congrArg some (by kernel_rfl)),
  f282 := Tryz.func206.trans (congrArg some (by kernel_rfl)),
  f283 := Tryz.func168.trans (congrArg some (by kernel_rfl)),
  f284 := Tryz.func169.trans (congrArg some (by kernel_rfl)),
  f285 := Tryz.func170.trans (congrArg some (by kernel_rfl)),
  f286 := Tryz.func171.trans (congrArg some (by kernel_rfl)),
  f287 := Tryz.func207.trans (congrArg some (by kernel_rfl)),
  f316 := Tryz.func208.trans (congrArg some (by kernel_rfl)),
  f317 := Tryz.func190.trans (congrArg some (by kernel_rfl)),
  f318 := Tryz.func191.trans (congrArg some (by kernel_rfl)),
  f319 := Tryz.func192.trans (congrArg some (by kernel_rfl)),
  f320 := Tryz.func193.trans (congrArg some (by kernel_rfl)),
  f321 := Tryz.func210.trans (congrArg some (by kernel_rfl)),
  f322 := Tryz.func211.trans (congrArg some (by kernel_rfl)),
  f337 := Tryz.func200.trans (congrArg some (by kernel_rfl)),
  f338 := Tryz.func201.trans (congrArg some (by kernel_rfl)),
  t0 := Tryz.underlying0,
  a0 := Tryz.isAgg0,
  z0 := Tryz.sizeOf0,
  v0 := Tryz.zeroValue0,
  t2 := Tryz.underlying2,
  a2 := Tryz.isAgg2,
  z2 := Tryz.sizeOf2,
  v2 := Tryz.zeroValue2,
  t3 := Tryz.underlying3,
  a3 := Tryz.isAgg3,
  z3 := Tryz.sizeOf3,
  v3 := Tryz.zeroValue3,
  t4 := Tryz.underlying4,
  a4 := Tryz.isAgg4,
  z4 := Tryz.sizeOf4,
  v4 := Tryz.zeroValue4,
  t5 := Tryz.underlying5,
  a5 := Tryz.isAgg5,
  z5 := Tryz.sizeOf5,
  v5 := Tryz.zeroValue5,
  t9 := Tryz.underlying9,
  a9 := Tryz.isAgg9,
  z9 := Tryz.sizeOf9,
  v9 := Tryz.zeroValue9,
  t20 := Tryz.underlying20,
  a20 := Tryz.isAgg20,
  z20 := Tryz.sizeOf20,
  v20 := Tryz.zeroValue20,
  t21 := Tryz.underlying21,
  a21 := Tryz.isAgg21,
  z21 := Tryz.sizeOf21,
  v21 := Tryz.zeroValue21,
  t37 := Tryz.underlying99,
  a37 := Tryz.isAgg99,
  z37 := Tryz.sizeOf99,
  v37 := Tryz.zeroValue99,
  t46 := Tryz.underlying195,
  a46 := Tryz.isAgg195,
  z46 := Tryz.sizeOf195,
  v46 := Tryz.zeroValue195,
  t51 := Tryz.underlying233,
  a51 := Tryz.isAgg233,
  z51 := Tryz.sizeOf233,
  v51 := Tryz.zeroValue233,
  t53 := Tryz.underlying235,
  a53 := Tryz.isAgg235,
  z53 := Tryz.sizeOf235,
  v53 := Tryz.zeroValue235,
  t75 := Tryz.underlying28,
  a75 := Tryz.isAgg28,
  z75 := Tryz.sizeOf28,
  v75 := Tryz.zeroValue28,
  t76 := Tryz.underlying102,
  a76 := Tryz.isAgg102,
  z76 := Tryz.sizeOf102,
  v76 := Tryz.zeroValue102,
  t85 := Tryz.underlying264,
  a85 := Tryz.isAgg264,
  z85 := Tryz.sizeOf264,
  v85 := Tryz.zeroValue264,
  t127 := Tryz.underlying153,
  a127 := Tryz.isAgg153,
  z127 := Tryz.sizeOf153,
  v127 := Tryz.zeroValue153,
  t143 := Tryz.underlying278,
  a143 := Tryz.isAgg278,
  z143 := Tryz.sizeOf278,
  v143 := Tryz.zeroValue278,
  t145 := Tryz.underlying280,
  a145 := Tryz.isAgg280,
  z145 := Tryz.sizeOf280,
  v145 := Tryz.zeroValue280,
  t167 := Tryz.underlying263,
  a167 := Tryz.isAgg263,
  z167 := Tryz.sizeOf263,
  v167 := Tryz.zeroValue263,
  t168 := Tryz.underlying266,
  a168 := Tryz.isAgg266,
  z168 := Tryz.sizeOf266,
  v168 := Tryz.zeroValue266,
  t171 := Tryz.underlying239,
  a171 := Tryz.isAgg239,
  z171 := Tryz.sizeOf239,
  v171 := Tryz.zeroValue239,
  t173 := Tryz.underlying241,
  a173 := Tryz.isAgg241,
  z173 := Tryz.sizeOf241,
  v173 := Tryz.zeroValue241,
  t175 := Tryz.underlying271,
  a175 := Tryz.isAgg271,
  z175 := Tryz.sizeOf271,
  v175 := Tryz.zeroValue271,
  t210 := Tryz.underlying275,
  a210 := Tryz.isAgg275,
  z210 := Tryz.sizeOf275,
  v210 := Tryz.zeroValue275,
  t212 := Tryz.underlying252,
  a212 := Tryz.isAgg252,
  z212 := Tryz.sizeOf252,
  v212 := Tryz.zeroValue252,
  t213 := Tryz.underlying253,
  a213 := Tryz.isAgg253,
  z213 := Tryz.sizeOf253,
  t232 := Tryz.underlying269,
  a232 := Tryz.isAgg269,
  z232 := Tryz.sizeOf269,
  v232 := Tryz.zeroValue269,
  t233 := Tryz.underlying270,
  a233 := Tryz.isAgg270,
  z233 := Tryz.sizeOf270,
  v233 := Tryz.zeroValue270,
  g15 := by kernel_rfl,
  g16 := by kernel_rfl,
  g17 := by kernel_rfl,
  g18 := by kernel_rfl,
  g19 := by kernel_rfl,
  t80 := Tryz.underlying42,
  a80 := Tryz.isAgg42,
  z80 := Tryz.sizeOf42,
  v80 := Tryz.zeroValue42,
  i0 := by kernel_rfl,
  i2 := by kernel_rfl,
  i3 := by kernel_rfl,
  i4 := by kernel_rfl,
  i5 := by kernel_rfl,
  i9 := by kernel_rfl,
  i20 := by kernel_rfl,
  i21 := by kernel_rfl,
  i37 := by kernel_rfl,
  i46 := by kernel_rfl,
  i51 := by kernel_rfl,
  i53 := by kernel_rfl,
  i75 := by kernel_rfl,
  i76 := by kernel_rfl,
  i80 := by kernel_rfl,
  i85 := by kernel_rfl,
  i127 := by kernel_rfl,
  i143 := by kernel_rfl,
  i145 := by kernel_rfl,
  i167 := by kernel_rfl,
  i168 := by kernel_rfl,
  i171 := by kernel_rfl,
  i173 := by kernel_rfl,
  i175 := by kernel_rfl,
  i210 := by kernel_rfl,
  i212 := by kernel_rfl,
  i232 := by kernel_rfl,
  i233 := by kernel_rfl,
  m15 := by kernel_rfl,
  m16 := by kernel_rfl,
  m17 := by kernel_rfl,
  m18 := by kernel_rfl,
  m19 := by kernel_rfl,
  c0 := by kernel_rfl,
  c2 := by kernel_rfl,
  c3 := by kernel_rfl,
  c4 := by kernel_rfl,
  c5 := by kernel_rfl,
  c9 := by kernel_rfl,
  c20 := by kernel_rfl,
  c21 := by kernel_rfl,
  c37 := by kernel_rfl,
  c46 := by kernel_rfl,
  c51 := by kernel_rfl,
  c53 := by kernel_rfl,
  c75 := by kernel_rfl,
  c76 := by kernel_rfl,
  c80 := by kernel_rfl,
  c85 := by kernel_rfl,
  c127 := by kernel_rfl,
  c143 := by kernel_rfl,
  c145 := by kernel_rfl,
  c167 := by kernel_rfl,
  c168 := by kernel_rfl,
  c171 := by kernel_rfl,
  c173 := by kernel_rfl,
  c175 := by kernel_rfl,
  c210 := by kernel_rfl,
  c212 := by kernel_rfl,
  c213 := by kernel_rfl,
  c232 := by kernel_rfl,
  c233 := by kernel_rfl }
def ErrR (w : World) : Prop := ∃ tp p, w.var? Tryz.prog "strconv.ErrRange" = some #[.iface tp p]
theorem ErrR.ext {w w' : World} (h : ErrR w) (hx : Ext w w') : ErrR w' := by
  obtain ⟨tp, p, h⟩ := h
  exact ⟨tp, p, var_ext hx h⟩
theorem satoi_ok {s : List UInt8} (hl : s.length ≤ 4000) {v : Int} (h : Lib.atoiAll s = .ok v) (w : World) : Calls Tryz.prog 185 #[.string ⟨s.toArray⟩] w fun e w' => e = .returned (.tuple #[.int .i64 v, .nilIface]) ∧ Ext w w' := by
  refine (Any.strconv_Atoi_ok Tryz.laysAtoi ⟨s.toArray⟩ (by show s.toArray.size ≤ _; simp; omega) v (by simpa using h) w).mono ?_
  rintro e w' ⟨rfl, h | ⟨t, rfl⟩⟩
  · exact ⟨rfl, by rw [h]; exact Ext.refl _⟩
  · exact ⟨rfl, Lib.bytesWorld_below _ _ _⟩
theorem satoi_no {s : List UInt8} (hk : kindW s = 2) (hne : s ≠ []) (hl : s.length ≤ 4000) (h : ∀ v, Lib.atoiAll s ≠ .ok v) (w : World) (he : ErrR w) : Calls Tryz.prog 185 #[.string ⟨s.toArray⟩] w fun e w' => (∃ x T N, e = .returned (.tuple #[.int .i64 x, .iface T (.pointer (some ⟨N, 0, none⟩))])) ∧ Ext w w' := by
  obtain ⟨tp, p, hv⟩ := he
  have hr : Lib.atoiAll s = .range := by
    cases e : Lib.atoiAll s
    · exact absurd e (h _)
    · have := atoi_dig hk hne
      rw [e] at this; cases this
    · rfl
  refine (Any.strconv_Atoi_range_var Tryz.laysAtoi ⟨s.toArray⟩ (by show s.toArray.size ≤ _; simp; omega) (by simpa using hr) tp p w hv).mono ?_
  rintro e w' ⟨N, rfl, -, -, hb⟩
  exact ⟨⟨_, _, N, rfl⟩, hb⟩
end Go.Proofs.YtgnomhbbbcfehaaGreatDoor
end
section
namespace Go.Att
open Go.RowKit
def StopCaught (ts te tp ti tr : TypeId) (w : World) (k : Int) (r1 r2 r3 : Nat) (older : List PanicEntry) (e : Ending) (u' : FrameMode) (w' : World) : Prop :=
  e = .returned (.tuple #[]) ∧ u' = .panicking ({ v := .iface ts (.agg #[.int .i64 k]), recovered := true } :: older) ∧ BlkOf w' r1 [.pointer none] tp ∧ BlkOf w' r2 [.int .i64 0] ti ∧ BlkOf w' r3 [.iface te (.int .i64 k)] tr ∧ ∀ w0, Ext w0 w → w0.heap.size ≤ r1 → w0.heap.size ≤ r2 → w0.heap.size ≤ r3 → Ext w0 w'
end Go.Att
namespace Go.Proofs.YtgnomhbbbcfehaaGreatDoor
open Go.RowKit Go.Att Go.Maps
attribute [local go_sem ↓] Go.wp_at_zero Go.wp_at_succ
theorem rep12m : Array.replicate 12 undef = #[undef, undef, undef, undef, undef, undef, undef, undef, undef, undef, undef, undef] := rfl
set_option maxRecDepth 100000 in
set_option maxHeartbeats 1000000 in
theorem mcatch_idle (p q r : Value) (w : World) :
    CallsD Tryz.prog 117 #[p, q, r] .returning w fun e u' w' => e = .returned (.tuple #[]) ∧ u' = .returning ∧ w = w' := by
  refine callsD_of_wpS Tryz.func117 rfl fun c₀ cs hu => ?_
  apply wpS_seq
  apply wpS_region
  simp [wpOpsS, go_sem, recoverD, hu, Tryz.ntmps117, Exit.thenS, rep12m]
  refine wpS_of_wp ?_
  go_wp2_with fail
  cases c₀ with
  | mk a1 a2 a3 a4 a5 a6 a7 =>
  have hu' : a5 = .returning := hu
  subst hu'
  refine ⟨rfl, .returning, rfl, .tuple #[], ?_, rfl, rfl, rfl⟩
  simp [results, Tryz.results117]
set_option maxRecDepth 100000 in
set_option maxHeartbeats 1000000 in
theorem mcatch_stops (r1 r2 r3 : Nat) (k : Int) (older : List PanicEntry) (w : World) {v1 v2 v3 : Value} (h1 : BlkOf w r1 [v1] 160) (h2 : BlkOf w r2 [v2] 3) (h3 : BlkOf w r3 [v3] 28) (n1 : r1 ≠ r2) (n2 : r1 ≠ r3) (n3 : r2 ≠ r3) :
    CallsD Tryz.prog 117 #[.pointer (some ⟨r1, 0, none⟩), .pointer (some ⟨r2, 0, none⟩), .pointer (some ⟨r3, 0, none⟩)] (.panicking ({ v := .iface 192 (.agg #[.int .i64 k]), recovered := false } :: older)) w (StopCaught 192 60 160 3 28 w k r1 r2 r3 older) := by
  have hta : ∀ w, (Instr.typeAssert (.iface 192 (.agg #[.int .i64 k])) 20 192 true).run Tryz.prog w = .ok (.tuple #[.agg #[.int .i64 k], .bool true]) w := fun _ => by kernel_rfl
  have hx := Ext.alloc w (Obj.cells #[.int .i64 k] 192)
  have hz := h1.ext hx
  have c1 : (w.alloc (Obj.cells #[.int .i64 k] 192)).cell? ⟨r1, 0, none⟩ = some v1 := (h1.ext hx).cell 0
  have c2 : (w.alloc (Obj.cells #[.int .i64 k] 192)).cell? ⟨r2, 0, none⟩ = some v2 := (h2.ext hx).cell 0
  have c3 : (w.alloc (Obj.cells #[.int .i64 k] 192)).cell? ⟨r3, 0, none⟩ = some v3 := (h3.ext hx).cell 0
  have f1 := (h1.ext hx).free 0
  have f2 := (h2.ext hx).free 0
  have f3 := (h3.ext hx).free 0
  have m1 := h1.lt; have m2 := h2.lt; have m3 := h3.lt
  have HX := Lib.hid hx; have HA := Lib.hid h1; have HB := Lib.hid h2; have HC := Lib.hid h3
  clear hx h1 h2 h3 hz
  refine callsD_of_wpS Tryz.func117 rfl fun c₀ cs hu => ?_
  apply wpS_seq
  apply wpS_region
  simp [wpOpsS, go_sem, recoverD, hu, Tryz.ntmps117, Exit.thenS, rep12m]
  refine wpS_of_wp ?_
  go_wp2_with fail
  have s0 : (w.alloc (Obj.cells #[.int .i64 k] 192)).cell? ⟨w.heap.size, 0, none⟩ = some (.int .i64 k) := (BlkOf.new w [.int .i64 k] 192).cell 0
  have g1 : w.heap.size ≠ r1 := by omega
  have g2 : w.heap.size ≠ r2 := by omega
  have g3 : w.heap.size ≠ r3 := by omega
  replace HA := Lib.hid (HA.out.ext HX.out); replace HB := Lib.hid (HB.out.ext HX.out); replace HC := Lib.hid (HC.out.ext HX.out)
  clear m1 m2 m3 hta
  generalize w.alloc (Obj.cells #[.int .i64 k] 192) = W at *
  generalize w.heap.size = sb at *
  have k1 := g1.symm
  have k2 := g2.symm
  have k3 := g3.symm
  go_region_held3 (fun w' => w'.cell? ⟨sb, 0, none⟩ = some (.int .i64 k)) (first | exact s0 | exact (World.cell?_setCell_other _ _ _ _ (by simp)).trans s0 | exact (World.cell?_setCell_other _ _ _ _ (by simp)).trans ((World.cell?_setCell_other _ _ _ _ (by simp)).trans s0) | exact (World.cell?_setCell_other _ _ _ _ (by simp)).trans ((World.cell?_setCell_other _ _ _ _ (by simp)).trans ((World.cell?_setCell_other _ _ _ _ (by simp)).trans s0))) (fail)
  rename_i hHeld; clear hHeld
  go_wp2_with fail
  have G1 := setCell_grown W r1 0 (.pointer none)
  have G2 := setCell_grown (W.setCell ⟨r1, 0, none⟩ (.pointer none)) r2 0 (.int .i64 0)
  have G3 := setCell_grown ((W.setCell ⟨r1, 0, none⟩ (.pointer none)).setCell ⟨r2, 0, none⟩ (.int .i64 0)) r3 0 (.iface 60 (.int .i64 k))
  have X4 := Ext.drew (((W.setCell ⟨r1, 0, none⟩ (.pointer none)).setCell ⟨r2, 0, none⟩ (.int .i64 0)).setCell ⟨r3, 0, none⟩ (.iface 60 (.int .i64 k)))
  have B1 : BlkOf (((W.setCell ⟨r1, 0, none⟩ (.pointer none)).setCell ⟨r2, 0, none⟩ (.int .i64 0)).setCell ⟨r3, 0, none⟩ (.iface 60 (.int .i64 k))).drew r1 [.pointer none] 160 := (((HA.out.set 0 (.pointer none)).grown G2 (fun e => n1 (Option.some.inj e))).grown G3 (fun e => n2 (Option.some.inj e))).ext X4
  have B2 : BlkOf (((W.setCell ⟨r1, 0, none⟩ (.pointer none)).setCell ⟨r2, 0, none⟩ (.int .i64 0)).setCell ⟨r3, 0, none⟩ (.iface 60 (.int .i64 k))).drew r2 [.int .i64 0] 3 := (((HB.out.grown G1 (fun e => n1 (Option.some.inj e).symm)).set 0 (.int .i64 0)).grown G3 (fun e => n3 (Option.some.inj e))).ext X4
  have B3 : BlkOf (((W.setCell ⟨r1, 0, none⟩ (.pointer none)).setCell ⟨r2, 0, none⟩ (.int .i64 0)).setCell ⟨r3, 0, none⟩ (.iface 60 (.int .i64 k))).drew r3 [.iface 60 (.int .i64 k)] 28 := (((HC.out.grown G1 (fun e => n2 (Option.some.inj e).symm)).grown G2 (fun e => n3 (Option.some.inj e).symm)).set 0 (.iface 60 (.int .i64 k))).ext X4
  refine ⟨rfl, _, rfl, .tuple #[], ?_, rfl, rfl, B1, B2, B3, ?_⟩
  · simp [results, Tryz.results117]
  · intro w0 hx h1 h2 h3
    exact Ext.trans (Below.setCell (Below.setCell (Below.setCell (hx.trans HX.out) h1 _) h2 _) h3 _) X4
end Go.Proofs.YtgnomhbbbcfehaaGreatDoor
end
