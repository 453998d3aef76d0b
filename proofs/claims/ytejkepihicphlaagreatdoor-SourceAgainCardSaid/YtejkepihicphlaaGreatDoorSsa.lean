/- A text's reader, the program's side: numbers by the library: contract. -/
import Derived.Test.YtejkepihicphlaaGreatDoorSs9
import Derived.Shelf.Strconv.ErrVarAll
namespace Go.Att
open Go.RowKit
theorem var_ext {P : Program} {w w' : World} (hx : Ext w w') {name : String} {cs : Array Value} (h : w.var? P name = some cs) : w'.var? P name = some cs := by
  unfold World.var? at h ⊢
  cases e : P.globalNamed name with
  | none => rw [e] at h; cases h
  | some g =>
    rw [e] at h
    simp only [Option.bind_some] at h ⊢
    have hg : g < w.heap.size := by
      rcases Nat.lt_or_ge g w.heap.size with h1 | h1
      · exact h1
      · rw [Array.getElem?_eq_none h1] at h; cases h
    rw [hx.below.block g hg]; exact h
def illE {α : Type} : Lib.NumEnd α → Bool
  | .ok _ => false
  | .range => false
  | _ => true
theorem parse10_dig : ∀ (l : List UInt8) (acc : Nat), l.all digC = true → illE (Lib.parseUint10 acc l) = false
  | [], acc, _ => by simp [Lib.parseUint10, illE]
  | c :: l, acc, h => by
    simp only [List.all_cons, Bool.and_eq_true] at h
    have hc := h.1
    unfold digC at hc
    simp only [Bool.and_eq_true, decide_eq_true_eq] at hc
    rw [Lib.parseUint10, if_pos ⟨hc.1, hc.2⟩]
    split
    · rfl
    · split
      · rfl
      · exact parse10_dig l _ h.2
theorem atoi_dig {s : List UInt8} (hk : kindW s = 2) (hne : s ≠ []) : illE (Lib.atoiAll s) = false := by
  cases s with
  | nil => exact absurd rfl hne
  | cons c r =>
    unfold kindW at hk
    split at hk
    · cases hk
    · split at hk
      · rename_i h1 h2
        rw [Bool.and_eq_true] at h2
        have h3 := h2.1
        have hc := h3
        simp only [List.all_cons, Bool.and_eq_true] at hc
        have hc := hc.1
        unfold digC at hc
        simp only [Bool.and_eq_true, decide_eq_true_eq] at hc
        rw [Lib.atoiAll_plain c r (by omega) (by omega)]
        have h4 := parse10_dig _ 0 h3
        unfold Lib.parseMag
        rw [if_neg (by simp)]
        unfold Lib.signless
        split
        · rename_i e; rw [e] at h4; cases h4
        · rfl
        · split <;> rfl
      · cases hk
end Go.Att
namespace Go.Proofs.YtejkepihicphlaaGreatDoor
open Go.RowKit Go.Att Go.Shelf
def Tryz.laysAtoi_ren : Go.Shelf.Ren := ⟨fun | 172 => 127 | 244 => 166 | 245 => 167 | 247 => 192 | 279 => 193 | 280 => 194 | 281 => 195 | 282 => 196 | 287 => 209 | 316 => 210 | 171 => 68 | 205 => 211 | 321 => 217 | 322 => 218 | 243 => 119 | 246 => 157 | 283 => 185 | 284 => 186 | 285 => 187 | 286 => 188 | 129 => 204 | 317 => 203 | 318 => 205 | 319 => 206 | 320 => 207 | 337 => 215 | 338 => 216 | n => n, fun | 9 => 9 | 3 => 3 | 75 => 24 | 76 => 81 | 4 => 4 | 5 => 5 | 167 => 264 | 37 => 78 | 0 => 0 | 85 => 265 | 2 => 2 | 168 => 267 | 53 => 259 | 175 => 277 | 46 => 238 | 210 => 281 | 127 => 162 | 145 => 292 | 143 => 290 | 21 => 21 | 171 => 258 | 173 => 262 | 212 => 271 | 51 => 272 | 20 => 20 | 213 => 273 | 232 => 293 | 233 => 294 | 80 => 27 | n => n, fun | 15 => 4 | 16 => 5 | 17 => 3 | 18 => 8 | 19 => 9 | n => n⟩
theorem Tryz.laysAtoi : Go.Proofs.LaysC.n172 Tryz.prog Tryz.laysAtoi_ren := {
  mixed := by kernel_rfl,
  f129 := Tryz.func204.trans (congrArg some (by kernel_rfl)),
  f171 := Tryz.func68.trans (congrArg some (by kernel_rfl)),
  f172 := Tryz.func127.trans (congrArg some (by kernel_rfl)),
  f205 := Tryz.func211.trans (congrArg some (by kernel_rfl)),
  f243 := Tryz.func119.trans (congrArg some (by kernel_rfl)),
  f244 := Tryz.func166.trans (congrArg some (by kernel_rfl)),
  f245 := Tryz.func167.trans (congrArg some (by kernel_rfl)),
  f246 := Tryz.func157.trans (congrArg some (by kernel_rfl)),
  f247 := Tryz.func192.trans (congrArg some (by kernel_rfl)),
  f279 := Tryz.func193.trans (congrArg some (by kernel_rfl)),
  f280 := Tryz.func194.trans (congrArg some (by kernel_rfl)),
  f281 := Tryz.func195.trans (congrArg some (by kernel_rfl)),
  f282 := Tryz.func196.trans (congrArg some (by kernel_rfl)),
  f283 := Tryz.func185.trans (congrArg some (by kernel_rfl)),
  f284 := Tryz.func186.trans (congrArg some (by kernel_rfl)),
  f285 := Tryz.func187.trans (congrArg some (by kernel_rfl)),
  f286 := Tryz.func188.trans (congrArg some (by kernel_rfl)),
  f287 := Tryz.func209.trans (congrArg some (by kernel_rfl)),
  f316 := Tryz.func210.trans (congrArg some (by kernel_rfl)),
  f317 := Tryz.func203.trans (congrArg some (by kernel_rfl)),
  f318 := Tryz.func205.trans (congrArg some (by kernel_rfl)),
  f319 := Tryz.func206.trans (congrArg some (by kernel_rfl)),
  f320 := Tryz.func207.trans (congrArg some (by kernel_rfl)),
  f321 := Tryz.func217.trans (congrArg some (by kernel_rfl)),
  f322 := Tryz.func218.trans (congrArg some (by kernel_rfl)),
  f337 := Tryz.func215.trans (congrArg some (by kernel_rfl)),
  f338 := Tryz.func216.trans (congrArg some (by kernel_rfl)),
  t0 := Tryz.underlying0,
  a0 := Tryz.isAgg0,
  z0 := Tryz.sizeOf0,
  v0 := Tryz.zeroValue0,
  t2 := Tryz.underlying2,
  a2 := Tryz.isAgg2,
  z2 := Tryz.sizeOf2,
  v2 := Tryz.zeroValue2,
  t3 := Tryz.underlying3,
  a3 := Tryz.isAgg3,
  z3 := Tryz.sizeOf3,
  v3 := Tryz.zeroValue3,
  t4 := Tryz.underlying4,
  a4 := Tryz.isAgg4,
  z4 := Tryz.sizeOf4,
  v4 := Tryz.zeroValue4,
  t5 := Tryz.underlying5,
  a5 := Tryz.isAgg5,
  z5 := Tryz.sizeOf5,
  v5 := Tryz.zeroValue5,
  t9 := Tryz.underlying9,
  a9 := Tryz.isAgg9,
  z9 := Tryz.sizeOf9,
  v9 := Tryz.zeroValue9,
  t20 := Tryz.underlying20,
  a20 := Tryz.isAgg20,
  z20 := Tryz.sizeOf20,
  v20 := Tryz.zeroValue20,
  t21 := Tryz.underlying21,
  a21 := Tryz.isAgg21,
  z21 := Tryz.sizeOf21,
  v21 := Tryz.zeroValue21,
  t37 := Tryz.underlying78,
  a37 := Tryz.isAgg78,
  z37 := Tryz.sizeOf78,
  v37 := Tryz.zeroValue78,
  t46 := Tryz.underlying238,
  a46 := Tryz.isAgg238,
  z46 := Tryz.sizeOf238,
  v46 := Tryz.zeroValue238,
  t51 := Tryz.underlying272,
  a51 := Tryz.isAgg272,
  z51 := Tryz.sizeOf272,
  v51 := Tryz.zeroValue272,
  t53 := Tryz.underlying259,
  a53 := Tryz.isAgg259,
  z53 := Tryz.sizeOf259,
  v53 := Tryz.zeroValue259,
  t75 := Tryz.underlying24,
  a75 := Tryz.isAgg24,
  z75 := Tryz.sizeOf24,
  v75 := Tryz.zeroValue24,
  t76 := Tryz.underlying81,
  a76 := Tryz.isAgg81,
  z76 := Tryz.sizeOf81,
  v76 := Tryz.zeroValue81,
  t85 := Tryz.underlying265,
  a85 := Tryz.isAgg265,
  z85 := Tryz.sizeOf265,
  v85 := Tryz.zeroValue265,
  t127 := Tryz.underlying162,
  a127 := Tryz.isAgg162,
  z127 := Tryz.sizeOf162,
  v127 := Tryz.zeroValue162,
  t143 := Tryz.underlying290,
  a143 := Tryz.isAgg290,
  z143 := Tryz.sizeOf290,
  v143 := Tryz.zeroValue290,
  t145 := Tryz.underlying292,
  a145 := Tryz.isAgg292,
  z145 := Tryz.sizeOf292,
  v145 := Tryz.zeroValue292,
  t167 := Tryz.underlying264,
  a167 := Tryz.isAgg264,
  z167 := Tryz.sizeOf264,
  v167 := Tryz.zeroValue264,
  t168 := Tryz.underlying267,
  a168 := Tryz.isAgg267,
  z168 := Tryz.sizeOf267,
  v168 := Tryz.zeroValue267,
  t171 := Tryz.underlying258,
  a171 := Tryz.isAgg258,
  z171 := Tryz.sizeOf258,
  v171 := Tryz.zeroValue258,
  t173 := Tryz.underlying262,
  a173 := Tryz.isAgg262,
  z173 := Tryz.sizeOf262,
  v173 := Tryz.zeroValue262,
  t175 := Tryz.underlying277,
  a175 := Tryz.isAgg277,
  z175 := Tryz.sizeOf277,
  v175 := Tryz.zeroValue277,
  t210 := Tryz.underlying281,
  a210 := Tryz.isAgg281,
  z210 := Tryz.sizeOf281,
  v210 := Tryz.zeroValue281,
  t212 := Tryz.underlying271,
  a212 := Tryz.isAgg271,
  z212 := Tryz.sizeOf271,
  v212 := Tryz.zeroValue271,
  t213 := Tryz.underlying273,
  a213 := Tryz.isAgg273,
  z213 := Tryz.sizeOf273,
  t232 := Tryz.underlying293,
  a232 := Tryz.isAgg293,
  z232 := Tryz.sizeOf293,
  v232 := Tryz.zeroValue293,
  t233 := Tryz.underlying294,
  a233 := Tryz.isAgg294,
  z233 := Tryz.sizeOf294,
  v233 := Tryz.zeroValue294,
  g15 := by kernel_rfl,
  g16 := by kernel_rfl,
  g17 := by kernel_rfl,
  g18 := by kernel_rfl,
  g19 := by kernel_rfl,
  t80 := Tryz.underlying27,
  a80 := Tryz.isAgg27,
  z80 := Tryz.sizeOf27,
  v80 := Tryz.zeroValue27,
  i0 := by kernel_rfl,
  i2 := by kernel_rfl,
  i3 := by kernel_rfl,
  i4 := by kernel_rfl,
  i5 := by kernel_rfl,
  i9 := by kernel_rfl,
  i20 := by kernel_rfl,
  i21 := by kernel_rfl,
  i37 := by kernel_rfl,
  i46 := by kernel_rfl,
  i51 := by kernel_rfl,
  i53 := by kernel_rfl,
  i75 := by kernel_rfl,
  i76 := by kernel_rfl,
  i80 := by kernel_rfl,
  i85 := by kernel_rfl,
  i127 := by kernel_rfl,
  i143 := by kernel_rfl,
  i145 := by kernel_rfl,
  i167 := by kernel_rfl,
  i168 := by kernel_rfl,
  i171 := by kernel_rfl,
  i173 := by kernel_rfl,
  i175 := by kernel_rfl,
  i210 := by kernel_rfl,
  i212 := by kernel_rfl,
  i232 := by kernel_rfl,
  i233 := by kernel_rfl,
  m15 := by kernel_rfl,
  m16 := by kernel_rfl,
  m17 := by kernel_rfl,
  m18 := by kernel_rfl,
  m19 := by kernel_rfl,
  c0 := by kernel_rfl,
  c2 := by kernel_rfl,
  c3 := by kernel_rfl,
  c4 := by kernel_rfl,
  c5 := by kernel_rfl,
  c9 := by kernel_rfl,
  c20 := by kernel_rfl,
  c21 := by kernel_rfl,
  c37 := by kernel_rfl,
  c46 := by kernel_rfl,
  c51 := by kernel_rfl,
  c53 := by kernel_rfl,
  c75 := by kernel_rfl,
  c76 := by kernel_rfl,
  c80 := by kernel_rfl,
  c85 := by kernel_rfl,
  c127 := by kernel_rfl,
  c143 := by kernel_rfl,
  c145 := by kernel_rfl,
  c167 := by kernel_rfl,
  c168 := by kernel_rfl,
  c171 := by kernel_rfl,
  c173 := by kernel_rfl,
  c175 := by kernel_rfl,
  c210 := by kernel_rfl,
  c212 := by kernel_rfl,
  c213 := by kernel_rfl,
  c232 := by kernel_rfl,
  c233 := by kernel_rfl }
def ErrR (w : World) : Prop := ∃ tp p, w.var? Tryz.prog "strconv.ErrRange" = some #[.iface tp p]
theorem ErrR.ext {w w' : World} (h : ErrR w) (hx : Ext w w') : ErrR w' := by
  obtain ⟨tp, p, h⟩ := h
  exact ⟨tp, p, var_ext hx h⟩
theorem satoi_ok {s : List UInt8} (hl : s.length ≤ 4000) {v : Int} (h : Lib.atoiAll s = .ok v) (w : World) : Calls Tryz.prog 127 #[.string ⟨s.toArray⟩] w fun e w' => e = .returned (.tuple #[.int .i64 v, .nilIface]) ∧ Ext w w' := by
  refine (Any.strconv_Atoi_ok Tryz.laysAtoi ⟨s.toArray⟩ (by show s.toArray.size ≤ _; simp; omega) v (by simpa using h) w).mono ?_
  rintro e w' ⟨rfl, h | ⟨t, rfl⟩⟩
  · exact ⟨rfl, by rw [h]; exact Ext.refl _⟩
  · exact ⟨rfl, Lib.bytesWorld_below _ _ _⟩
theorem satoi_no {s : List UInt8} (hk : kindW s = 2) (hne : s ≠ []) (hl : s.length ≤ 4000) (h : ∀ v, Lib.atoiAll s ≠ .ok v) (w : World) (he : ErrR w) : Calls Tryz.prog 127 #[.string ⟨s.toArray⟩] w fun e w' => (∃ x T N, e = .returned (.tuple #[.int .i64 x, .iface T (.pointer (some ⟨N, 0, none⟩))])) ∧ Ext w w' := by
  obtain ⟨tp, p, hv⟩ := he
  have hr : Lib.atoiAll s = .range := by
    cases e : Lib.atoiAll s
    · exact absurd e (h _)
    · have := atoi_dig hk hne
      rw [e] at this; cases this
    · rfl
  refine (Any.strconv_Atoi_range_var Tryz.laysAtoi ⟨s.toArray⟩ (by show s.toArray.size ≤ _; simp; omega) (by simpa using hr) tp p w hv).mono ?_
  rintro e w' ⟨N, rfl, -, -, hb⟩
  exact ⟨⟨_, _, N, rfl⟩, hb⟩
end Go.Proofs.YtejkepihicphlaaGreatDoor
