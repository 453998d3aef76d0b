/- A text's reader, the program's side: letters, kinds of words; what the reader's block holds: contracts. A text's reader, the program's side: what is skipped; the next token: contracts. -/
import Derived.Test.YtejkepihicphlaaGreatDoorZx4
import Derived.Test.YtejkepihicphlaaGreatDoorProg
import Derived.Test.YtejkepihicphlaaGreatDoorSr3
import Derived.BigQuiet
import Derived.Shelf.Strings.SlTrimAscii
import Derived.Shelf.Strings.Prefix
import Derived.Shelf.Small.Strs
import Derived.Shelf.Lays
import Derived.Ground.NamesProg
import Derived.Handy
section
namespace Go.Att
open Go.RowKit
abbrev strV (l : List UInt8) : Value := .string ⟨l.toArray⟩
def rcells (L : List UInt8) (n : Nat) (tk : Tk) (lv : Nat) : List Value :=
  [strV L, .int .i64 n, .int .i64 tk.kind, .int .i64 tk.pos, strV tk.txt, .int .i64 lv]
theorem src_index {P : Program} {T : TypeId} (hT : P.underlying T = some .string) (l : List UInt8) (i : Nat) (h : i < l.length) (w' : World) :
    (Instr.index T (strV l) (.int .i64 i)).run P w' = .ok (.int .u8 (l[i]).toNat) w' := by
  have hu := run_underlying hT
  have hg : (ByteArray.mk l.toArray)[i]? = some l[i] := by
    have hs : i < (ByteArray.mk l.toArray).size := by show i < l.toArray.size; simpa using h
    rw [getElem?_pos (ByteArray.mk l.toArray) i hs]
    simp [ByteArray.getElem_eq_getElem_data]
  simp [Instr.index, asIntOf, hu, hg]
theorem dw_nil {p : UInt8 → Bool} (l : List UInt8) : l.dropWhile p = [] ↔ ∀ x ∈ l, p x = true := by
  induction l with
  | nil => simp
  | cons a l ih =>
    rw [List.dropWhile_cons]
    split
    · rename_i h; rw [ih]; simp [h]
    · rename_i h; simp [h]
theorem trim_digits (s : List UInt8) : (Lib.trimS s [48, 49, 50, 51, 52, 53, 54, 55, 56, 57] = []) ↔ s.all digC = true := by
  have hc : ∀ c : UInt8, ([48, 49, 50, 51, 52, 53, 54, 55, 56, 57] : List UInt8).contains c = digC c := by
    intro c
    unfold digC
    rw [Bool.eq_iff_iff]
    simp only [List.contains_iff_mem, List.mem_cons, List.not_mem_nil, or_false, Bool.and_eq_true, decide_eq_true_eq, ← UInt8.toNat_inj]
    simp only [UInt8.reduceToNat]
    omega
  have hf : (fun x => ([48, 49, 50, 51, 52, 53, 54, 55, 56, 57] : List UInt8).contains x) = digC := funext hc
  unfold Lib.trimS Lib.trimLeftS Lib.trimRightS
  rw [hf, dw_nil]
  constructor
  · intro h
    rw [List.all_eq_true]
    intro x hx
    by_cases hm : x ∈ s.reverse.dropWhile digC
    · exact h x (List.mem_reverse.mpr hm)
    · have := List.takeWhile_append_dropWhile (p := digC) (l := s.reverse)
      have hx2 : x ∈ s.reverse.takeWhile digC := by
        have h3 : x ∈ s.reverse.takeWhile digC ++ s.reverse.dropWhile digC := by rw [this]; exact List.mem_reverse.mpr hx
        rcases List.mem_append.mp h3 with e | e
        · exact e
        · exact absurd e hm
      exact List.all_eq_true.mp List.all_takeWhile x hx2
  · intro h x hx
    rw [List.all_eq_true] at h
    have := List.mem_reverse.mp hx
    exact h x (List.mem_reverse.mp ((List.dropWhile_suffix digC).mem this))
end Go.Att
namespace Go.Proofs.YtejkepihicphlaaGreatDoor
open Go.RowKit Go.Att Go.Shelf
def Tryz.laysTrimS_ren : Go.Shelf.Ren := ⟨fun | 160 => 106 | 232 => 148 | 231 => 147 | 227 => 124 | 234 => 150 | 233 => 149 | 236 => 152 | 235 => 151 | 228 => 125 | 271 => 183 | 151 => 182 | 197 => 181 | 120 => 201 | 152 => 122 | 260 => 200 | 137 => 59 | 119 => 162 | 224 => 163 | 225 => 164 | 217 => 108 | 266 => 153 | n => n, fun | 9 => 9 | 4 => 4 | 3 => 3 | 5 => 5 | 117 => 204 | 116 => 203 | 0 => 0 | 124 => 232 | 21 => 21 | 105 => 255 | 46 => 238 | 119 => 284 | 139 => 287 | 138 => 286 | n => n, fun | 3 => 6 | 4 => 7 | n => n⟩
theorem Tryz.laysTrimS : Go.Proofs.Lays.n160 Tryz.prog Tryz.laysTrimS_ren := {
  mixed := by kernel_rfl,
  f119 := Tryz.func162.trans (congrArg some (by kernel_rfl)),
  f120 := Tryz.func201.trans (congrArg some (by kernel_rfl)),
  f137 := Tryz.func59.trans (congrArg some (by kernel_rfl)),
  f151 := Tryz.func182.trans (congrArg some (by kernel_rfl)),
  f152 := Tryz.func122.trans (congrArg some (by kernel_rfl)),
  f160 := Tryz.func106.trans (congrArg some (by kernel_rfl)),
  f197 := Tryz.func181.trans (congrArg some (by kernel_rfl)),
  f217 := Tryz.func108.trans (congrArg some (by kernel_rfl)),
  f224 := Tryz.func163.trans (congrArg some (by kernel_rfl)),
  f225 := Tryz.func164.trans (congrArg some (by kernel_rfl)),
  f227 := Tryz.func124.trans (congrArg some (by kernel_rfl)),
  f228 := Tryz.func125.trans (congrArg some (by kernel_rfl)),
  f231 := Tryz.func147.trans (congrArg some (by kernel_rfl)),
  f232 := Tryz.func148.trans (congrArg some (by kernel_rfl)),
  f233 := Tryz.func149.trans (congrArg some (by kernel_rfl)),
  f234 := Tryz.func150.trans (congrArg some (by kernel_rfl)),
  f235 := Tryz.func151.trans (congrArg some (by kernel_rfl)),
  f236 := Tryz.func152.trans (congrArg some (by kernel_rfl)),
  f260 := Tryz.func200.trans (congrArg some (by kernel_rfl)),
  f266 := Tryz.func153.trans (congrArg some (by kernel_rfl)),
  f271 := Tryz.func183.trans (congrArg some (by kernel_rfl)),
  t0 := Tryz.underlying0,
  a0 := Tryz.isAgg0,
  z0 := Tryz.sizeOf0,
  v0 := Tryz.zeroValue0,
  t3 := Tryz.underlying3,
  a3 := Tryz.isAgg3,
  z3 := Tryz.sizeOf3,
  v3 := Tryz.zeroValue3,
  t4 := Tryz.underlying4,
  a4 := Tryz.isAgg4,
  z4 := Tryz.sizeOf4,
  v4 := Tryz.zeroValue4,
  t5 := Tryz.underlying5,
  a5 := Tryz.isAgg5,
  z5 := Tryz.sizeOf5,
  v5 := Tryz.zeroValue5,
  t9 := Tryz.underlying9,
  a9 := Tryz.isAgg9,
  z9 := Tryz.sizeOf9,
  v9 := Tryz.zeroValue9,
  t21 := Tryz.underlying21,
  a21 := Tryz.isAgg21,
  z21 := Tryz.sizeOf21,
  v21 := Tryz.zeroValue21,
  t46 := Tryz.underlying238,
  a46 := Tryz.isAgg238,
  z46 := Tryz.sizeOf238,
  v46 := Tryz.zeroValue238,
  t105 := Tryz.underlying255,
  a105 := Tryz.isAgg255,
  z105 := Tryz.sizeOf255,
  v105 := Tryz.zeroValue255,
  t116 := Tryz.underlying203,
  a116 := Tryz.isAgg203,
  z116 := Tryz.sizeOf203,
  t117 := Tryz.underlying204,
  a117 := Tryz.isAgg204,
  z117 := Tryz.sizeOf204,
  v117 := Tryz.zeroValue204,
  t119 := Tryz.underlying284,
  a119 := Tryz.isAgg284,
  z119 := Tryz.sizeOf284,
  t124 := Tryz.underlying232,
  a124 := Tryz.isAgg232,
  z124 := Tryz.sizeOf232,
  v124 := Tryz.zeroValue232,
  t138 := Tryz.underlying286,
  a138 := Tryz.isAgg286,
  z138 := Tryz.sizeOf286,
  v138 := Tryz.zeroValue286,
  t139 := Tryz.underlying287,
  a139 := Tryz.isAgg287,
  z139 := Tryz.sizeOf287,
  v139 := Tryz.zeroValue287,
  g3 := by kernel_rfl,
  g4 := by kernel_rfl }
def Tryz.laysHasP_ren : Go.Shelf.Ren := ⟨fun | 99 => 58 | 206 => 107 | n => n, fun | 9 => 9 | 4 => 4 | 3 => 3 | n => n, fun | n => n⟩
theorem Tryz.laysHasP : Go.Proofs.Lays.n99 Tryz.prog Tryz.laysHasP_ren := {
  mixed := by kernel_rfl,
  f99 := Tryz.func58.trans (congrArg some (by kernel_rfl)),
  f206 := Tryz.func107.trans (congrArg some (by kernel_rfl)),
  t3 := Tryz.underlying3,
  a3 := Tryz.isAgg3,
  z3 := Tryz.sizeOf3,
  v3 := Tryz.zeroValue3,
  t4 := Tryz.underlying4,
  a4 := Tryz.isAgg4,
  z4 := Tryz.sizeOf4,
  v4 := Tryz.zeroValue4,
  t9 := Tryz.underlying9,
  a9 := Tryz.isAgg9,
  z9 := Tryz.sizeOf9,
  v9 := Tryz.zeroValue9 }
def Tryz.laysIdxB_ren : Go.Shelf.Ren := ⟨fun | 137 => 59 | 217 => 108 | 266 => 153 | n => n, fun | 9 => 9 | 5 => 5 | 3 => 3 | n => n, fun | n => n⟩
theorem Tryz.laysIdxB : Go.Proofs.Lays.n137 Tryz.prog Tryz.laysIdxB_ren := {
  mixed := by kernel_rfl,
  f137 := Tryz.func59.trans (congrArg some (by kernel_rfl)),
  f217 := Tryz.func108.trans (congrArg some (by kernel_rfl)),
  f266 := Tryz.func153.trans (congrArg some (by kernel_rfl)),
  t3 := Tryz.underlying3,
  a3 := Tryz.isAgg3,
  z3 := Tryz.sizeOf3,
  v3 := Tryz.zeroValue3,
  t5 := Tryz.underlying5,
  a5 := Tryz.isAgg5,
  z5 := Tryz.sizeOf5,
  v5 := Tryz.zeroValue5,
  t9 := Tryz.underlying9,
  a9 := Tryz.isAgg9,
  z9 := Tryz.sizeOf9,
  v9 := Tryz.zeroValue9 }
set_option maxRecDepth 100000 in
theorem sdig_any (c : UInt8) (w : World) : Calls Tryz.prog 104 #[.int .u8 c.toNat] w fun e w' => e = .returned (.bool (digC c)) ∧ w = w' := by
  have HF := Lib.hid (show digC c = (decide (48 ≤ c.toNat) && decide (c.toNat ≤ 57)) from rfl)
  by_cases h : 48 ≤ c.toNat
  · have h2 : (48 : Int) ≤ c.toNat := by omega
    have HF2 := Lib.hid (HF.out.trans (by rw [decide_eq_true h, Bool.true_and]))
    have HQ := Lib.hid (show decide ((c.toNat : Int) ≤ 57) = decide (c.toNat ≤ 57) from by rw [decide_eq_decide]; omega)
    generalize digC c = v at *
    generalize c.toNat = n at *
    go_enter Tryz.func104, Tryz.ntmps104
    go_wp2
    go_ret
    exact ⟨by rw [HF2.out, ← HQ.out]; trivial, rfl⟩
  · have h2 : ¬ (48 : Int) ≤ c.toNat := by omega
    have HF2 := Lib.hid (HF.out.trans (by rw [decide_eq_false h, Bool.false_and]))
    generalize digC c = v at *
    generalize c.toNat = n at *
    go_enter Tryz.func104, Tryz.ntmps104
    go_wp2
    go_ret
    exact ⟨by rw [HF2.out]; trivial, rfl⟩
set_option maxRecDepth 100000 in
theorem slet_any (c : UInt8) (w : World) : Calls Tryz.prog 105 #[.int .u8 c.toNat] w fun e w' => e = .returned (.bool (letC c)) ∧ w = w' := by
  have HF := Lib.hid (show letC c = ((decide (97 ≤ c.toNat) && decide (c.toNat ≤ 122)) || (decide (65 ≤ c.toNat) && decide (c.toNat ≤ 90))) from rfl)
  generalize letC c = v at *
  generalize c.toNat = n at *
  have HV := Lib.hid (show v = (decide ((97 : Int) ≤ n) && decide ((n : Int) ≤ 122) || (decide ((65 : Int) ≤ n) && decide ((n : Int) ≤ 90))) from by
    rw [HF.out]; congr 2 <;> (rw [decide_eq_decide]; omega))
  clear HF
  by_cases h1 : (97 : Int) ≤ n <;> by_cases h2 : (n : Int) ≤ 122 <;> by_cases h3 : (65 : Int) ≤ n <;> by_cases h4 : (n : Int) ≤ 90
  all_goals
    first
    | (exfalso; omega)
    | skip
  all_goals
    go_enter Tryz.func105, Tryz.ntmps105
    go_wp2
    go_ret
    exact ⟨by rw [HV.out]; simp [h1, h2, h3, h4], rfl⟩
set_option maxRecDepth 100000 in
theorem sjoin_any (c : UInt8) (w : World) : Calls Tryz.prog 56 #[.int .u8 c.toNat] w fun e w' => e = .returned (.bool (joinC c)) ∧ w = w' := by
  have HF := Lib.hid (show joinC c = (digC c || letC c || ((c.toNat : Int) == 95)) from by
    unfold joinC; congr 1; rw [Bool.eq_iff_iff]; simp only [beq_iff_eq]; omega)
  have C1 := Lib.hid (sdig_any c)
  have C2 := Lib.hid (slet_any c)
  generalize joinC c = v at *
  generalize digC c = d at *
  generalize letC c = l at *
  generalize c.toNat = n at *
  cases d <;> cases l
  all_goals
    go_enter Tryz.func56, Tryz.ntmps56
    go_wp2_with (first | (go_at_call 104; refine (C1.out _).mono ?_; rintro e w1 ⟨rfl, rfl⟩) | (go_at_call 105; refine (C2.out _).mono ?_; rintro e w1 ⟨rfl, rfl⟩))
    go_ret
    exact ⟨by rw [HF.out]; simp, rfl⟩
theorem strim_any (s : List UInt8) (hs : s.length ≤ 4000) (w : World) : Calls Tryz.prog 106 #[strV s, .string ⟨#[48, 49, 50, 51, 52, 53, 54, 55, 56, 57]⟩] w fun e w' => e = .returned (strV (Lib.trimS s [48, 49, 50, 51, 52, 53, 54, 55, 56, 57])) ∧ Ext w w' := by
  refine (Any.strings_Trim_laid Tryz.laysTrimS (by kernel_rfl) ⟨s.toArray⟩ ⟨#[48, 49, 50, 51, 52, 53, 54, 55, 56, 57]⟩ w (by show s.toArray.size ≤ _; simp; omega) (by decide) (ascii_of_all (by decide))).mono ?_
  rintro e w' ⟨rfl, h⟩
  exact ⟨by simp [strV], h⟩
theorem shasp_any (s : List UInt8) (w : World) : Calls Tryz.prog 58 #[strV s, .string ⟨#[61, 61]⟩] w fun e w' => e = .returned (.bool (([61, 61] : List UInt8).isPrefixOf s)) ∧ w = w' := by
  refine (Any.strings_HasPrefix Tryz.laysHasP ⟨s.toArray⟩ ⟨#[61, 61]⟩ w).mono ?_
  rintro e w' ⟨rfl, rfl⟩
  exact ⟨rfl, rfl⟩
theorem sidx_any (s : List UInt8) (c : UInt8) (w : World) : Calls Tryz.prog 59 #[strV s, .int .u8 c.toNat] w fun e w' => e = .returned (.int .i64 (Lib.indexByte s c)) ∧ w = w' := by
  refine (Any.strings_IndexByte Tryz.laysIdxB ⟨s.toArray⟩ c.toNat w).mono ?_
  rintro e w' ⟨rfl, rfl⟩
  exact ⟨by simp, rfl⟩
set_option maxRecDepth 100000 in
theorem skind_any (s : List UInt8) (hs : s.length ≤ 4000) (hne : s ≠ []) (w : World) : Calls Tryz.prog 57 #[strV s] w fun e w' => e = .returned (.int .i64 (kindW s)) ∧ Ext w w' := by
  obtain ⟨c, t, e⟩ := List.exists_cons_of_ne_nil hne
  have h0 : s[0]'(by rw [e]; simp) = c := by simp [e]
  have hix : ∀ w', (Instr.index 9 (.string ⟨s.toArray⟩) (.int .i64 0)).run Tryz.prog w' = .ok (.int .u8 c.toNat) w' := fun w' => by
    rw [← h0]; exact src_index (P := Tryz.prog) (T := 9) Tryz.underlying9 s 0 (by rw [e]; simp) w'
  have hK : kindW s = if letC c then 1 else if s.all digC && (decide (c.toNat ≠ 48) || decide (s.length = 1)) then 2 else 4 := by
    unfold kindW; rw [e]; rfl
  have HK := Lib.hid hK
  have C1 := Lib.hid (slet_any c)
  have C2 := Lib.hid (strim_any s hs)
  have HT := Lib.hid (trim_digits s)
  have H2 := Lib.hid (show (s = [48]) ↔ (c.toNat = 48 ∧ s.length = 1) from by
    rw [e]; simp [← UInt8.toNat_inj])
  clear hK e h0 hs
  cases hl : letC c with
  | true =>
    rw [hl] at HK C1
    clear HT H2 C2
    go_enter Tryz.func57, Tryz.ntmps57
    go_wp2_with (go_at_call 105; refine (C1.out _).mono ?_; rintro e w1 ⟨rfl, rfl⟩)
    go_ret
    exact ⟨by rw [HK.out]; rfl, Ext.refl _⟩
  | false =>
    rw [hl] at HK C1
    cases ha : s.all digC with
    | false =>
      have hq : Lib.trimS s [48, 49, 50, 51, 52, 53, 54, 55, 56, 57] ≠ [] := fun e => by have := HT.out.mp e; rw [ha] at this; cases this
      generalize Lib.trimS s [48, 49, 50, 51, 52, 53, 54, 55, 56, 57] = q at *
      have HQ := Lib.hid hq
      rw [ha] at HK
      clear HT H2 ha hq
      go_enter Tryz.func57, Tryz.ntmps57
      go_wp2_with (first | (go_at_call 105; refine (C1.out _).mono ?_; rintro e w1 ⟨rfl, rfl⟩) | (go_at_call 106; refine (C2.out _).mono ?_; rintro e w1 ⟨rfl, hx⟩))
      go_ret
      exact ⟨by rw [HK.out]; rfl, hx⟩
    | true =>
      have hq := HT.out.mpr ha
      rw [hq] at C2
      rw [ha] at HK
      have HN := Lib.hid hne
      clear HT ha hq
      by_cases h48 : c.toNat = 48
      · have hb : ((c.toNat : Int) != 48) = false := by rw [h48]; rfl
        have hb1 : (s == [48]) = decide (s.length = 1) := by
          rw [Bool.eq_iff_iff, beq_iff_eq, decide_eq_true_eq, H2.out]; exact ⟨fun h => h.2, fun h => ⟨h48, h⟩⟩
        have HK2 := Lib.hid (HK.out.trans (show _ = if decide (s.length = 1) then 2 else 4 from by rw [h48]; simp))
        generalize decide (s.length = 1) = v at *
        clear HK H2 hne HN h48
        cases v
        all_goals
          go_enter Tryz.func57, Tryz.ntmps57
          go_wp2_with (first | (go_at_call 105; refine (C1.out _).mono ?_; rintro e w1 ⟨rfl, rfl⟩) | (go_at_call 106; refine (C2.out _).mono ?_; rintro e w1 ⟨rfl, hx⟩))
          go_ret
          exact ⟨by rw [HK2.out]; rfl, hx⟩
      · have hb : ((c.toNat : Int) != 48) = true := by rw [bne_iff_ne]; omega
        have HK2 := Lib.hid (HK.out.trans (show _ = 2 from by rw [decide_eq_true (p := c.toNat ≠ 48) h48]; rfl))
        clear HK H2
        go_enter Tryz.func57, Tryz.ntmps57
        go_wp2_with (first | (go_at_call 105; refine (C1.out _).mono ?_; rintro e w1 ⟨rfl, rfl⟩) | (go_at_call 106; refine (C2.out _).mono ?_; rintro e w1 ⟨rfl, hx⟩))
        go_ret
        exact ⟨by rw [HK2.out]; rfl, hx⟩
end Go.Proofs.YtejkepihicphlaaGreatDoor
end
section
namespace Go.Att
open Go.RowKit
def nextAt (w : World) (b : Nat) : Nat := match w.cell? ⟨b, 1, none⟩ with | some (.int _ v) => v.toNat | _ => 0
theorem nextAt_eq {w : World} {b n : Nat} {k : IntKind} (h : w.cell? ⟨b, 1, none⟩ = some (.int k n)) : nextAt w b = n := by unfold nextAt; rw [h]; simp
theorem skip_comment (s : List UInt8) : skipL true s = (if Lib.indexByte s 10 < 0 then (s.length : Int) else Lib.indexByte s 10).toNat + skipL false (s.drop (if Lib.indexByte s 10 < 0 then (s.length : Int) else Lib.indexByte s 10).toNat) := by
  induction s with
  | nil => simp [skipL, Lib.indexByte]
  | cons c t ih =>
    have hge := Lib.indexByte_ge t 10
    rw [skipL]
    by_cases h : c.toNat = 10
    · have hc : c = 10 := by rw [← UInt8.toNat_inj]; exact h
      subst hc
      rw [if_pos h]
      simp [Lib.indexByte, skipL]
    · have hc : (c == 10) = false := by rw [beq_eq_false_iff_ne, ne_eq, ← UInt8.toNat_inj]; exact h
      rw [if_neg h, ih]
      rw [Lib.indexByte, hc]
      by_cases h2 : Lib.indexByte t 10 = -1
      · rw [h2]; simp; omega
      · have h3 : (Lib.indexByte t 10 == -1) = false := by simpa using h2
        rw [h3]
        simp only [Bool.false_eq_true, if_false]
        rw [if_neg (by omega), if_neg (by omega)]
        obtain ⟨m, hm⟩ := Int.eq_ofNat_of_zero_le (show 0 ≤ Lib.indexByte t 10 by omega)
        rw [hm]
        have e1 : ((m : Int) + 1).toNat = m + 1 := by omega
        rw [e1, Int.toNat_natCast, List.drop_succ_cons]
        omega
theorem indexByte_lt (s : List UInt8) (c : UInt8) : Lib.indexByte s c < s.length ∨ s = [] := by
  induction s with
  | nil => exact .inr rfl
  | cons a t ih =>
    left
    rw [Lib.indexByte]
    split
    · simp
    · split
      · simp; omega
      · rcases ih with h | rfl
        · simp only [List.length_cons]; omega
        · rename_i h; simp [Lib.indexByte] at h
end Go.Att
namespace Go.Proofs.YtejkepihicphlaaGreatDoor
open Go.RowKit Go.Att Go.Shelf
def RdC (w : World) (b : Nat) (L : List UInt8) (n : Nat) (tk : Tk) (lv : Nat) : Prop := BlkOf w b (rcells L n tk lv) 70
def RdGo (w : World) (b : Nat) (L : List UInt8) (n : Nat) (tk : Tk) (lv : Nat) (e : Ending) (w' : World) : Prop :=
  e = .returned (.tuple #[]) ∧ RdC w' b L n tk lv ∧ w.grownBy w' (some b)
theorem ba_drop (l : List UInt8) (i : Nat) : (ByteArray.mk l.toArray).extract i (ByteArray.mk l.toArray).size = ⟨(l.drop i).toArray⟩ := by
  apply ByteArray.ext
  rw [ByteArray.data_extract]
  show l.toArray.extract i l.toArray.size = _
  simp [List.extract_toArray, List.extract_eq_take_drop]
  exact List.take_of_length_le (by simp)
theorem ba_take (l : List UInt8) (i : Nat) : (ByteArray.mk l.toArray).extract 0 i = ⟨(l.take i).toArray⟩ := by
  apply ByteArray.ext
  rw [ByteArray.data_extract]
  simp [List.extract_toArray, List.extract_eq_take_drop]
theorem src_drop {l : List UInt8} {i : Nat} (h : i ≤ l.length) (w : World) : (Instr.slice 9 (.string ⟨l.toArray⟩) (some (.int .i64 i)) none none).run Tryz.prog w = .ok (.string ⟨(l.drop i).toArray⟩) w := by
  rw [run_slice_string_l w 9 ⟨l.toArray⟩ Tryz.underlying9 .i64 i (by omega) (by show (i : Int) ≤ (l.toArray.size : Nat); simp; omega)]
  rw [Int.toNat_natCast, ba_drop]
theorem src_take {l : List UInt8} {i : Nat} (h : i ≤ l.length) (w : World) : (Instr.slice 9 (.string ⟨l.toArray⟩) none (some (.int .i64 i)) none).run Tryz.prog w = .ok (.string ⟨(l.take i).toArray⟩) w := by
  rw [run_slice_string_h w 9 ⟨l.toArray⟩ Tryz.underlying9 .i64 i (by omega) (by show (i : Int) ≤ (l.toArray.size : Nat); simp; omega)]
  rw [Int.toNat_natCast, ba_take]
theorem qp2 {P : Program} {f : Nat} {args : Array Value} {v : Value} (h : ∀ W, Calls P f args W fun e w' => e = .returned v ∧ W = w') (w : World) (k n : Nat) : Calls P f args (w.drewN (k + n)) fun e w'' => e = .returned v ∧ ∃ m, w'' = w.drewN (k + m) :=
  (h _).mono fun _ _ h => ⟨h.1, n, h.2.symm⟩
theorem RdC.go {w w' : World} {b : Nat} {L : List UInt8} {n n' : Nat} {tk tk' : Tk} {lv lv' : Nat} (h : RdC w b L n tk lv) (i : Nat) (v : Value) (hw : w' = w.setCell ⟨b, i, none⟩ v) (hc : (rcells L n tk lv).set i v = rcells L n' tk' lv') : RdC w' b L n' tk' lv' ∧ w.grownBy w' (some b) := by
  subst hw
  exact ⟨by unfold RdC; rw [← hc]; exact BlkOf.set h i v, setCell_grown _ _ _ _⟩
theorem nextAt_rd {w : World} {b : Nat} {L : List UInt8} {n : Nat} {tk : Tk} {lv : Nat} (h : RdC w b L n tk lv) : nextAt w b = n := nextAt_eq (k := .i64) (BlkOf.cell h 1)
theorem rd_set {w wr : World} {b : Nat} {L : List UInt8} {q q' : Nat} {tk tk' : Tk} {lv lv' : Nat} (HR : RdC wr b L q tk lv) (HG : w.grownBy wr (some b)) (m : Nat) (i : Nat) (v : Value) (hc : (rcells L q tk lv).set i v = rcells L q' tk' lv') :
    RdC ((wr.drewN m).setCell ⟨b, i, none⟩ v) b L q' tk' lv' ∧ w.grownBy ((wr.drewN m).setCell ⟨b, i, none⟩ v) (some b) := by
  have h1 : RdC (wr.drewN m) b L q tk lv := BlkOf.ext HR (Ext.drewN _ _)
  exact ⟨by unfold RdC; rw [← hc]; exact BlkOf.set h1 i v, grown_one (grown_ext HG (Ext.drewN _ _)) (setCell_grown _ _ _ _)⟩
set_option maxRecDepth 100000 in
set_option maxHeartbeats 1000000 in
theorem sskip_any {w : World} {b : Nat} {L : List UInt8} {n : Nat} {tk : Tk} {lv : Nat} (h : RdC w b L n tk lv) (hn : n ≤ L.length) (hL : L.length ≤ 4000) :
    Calls Tryz.prog 55 #[.pointer (some ⟨b, 0, none⟩)] w (RdGo w b L (n + skipL false (L.drop n)) tk lv) := by
  have H := Lib.hid h
  clear h
  go_enter Tryz.func55, Tryz.ntmps55
  go_wp2_with fail
  go_loopw [] (fun wr => ∃ q : Nat, q ≤ L.length ∧ Hid (n + skipL false (L.drop n) = q + skipL false (L.drop q)) ∧ Hid (RdC wr b L q tk lv) ∧ Hid (w.grownBy wr (some b))) (fun wr => L.length - nextAt wr b)
  case atStart => exact ⟨n, hn, Lib.hid rfl, H, Lib.hid ((Ext.refl w).grownBy _)⟩
  case round =>
    obtain ⟨q, hq, HE, HR, HG⟩ := hrel
    have c0 : wr.cell? ⟨b, 0, none⟩ = some (.string ⟨L.toArray⟩) := BlkOf.cell HR.out 0
    have c1 : wr.cell? ⟨b, 1, none⟩ = some (.int .i64 q) := BlkOf.cell HR.out 1
    have f1 := BlkOf.free HR.out 1
    have HM := Lib.hid (nextAt_eq c1)
    by_cases hlt : q < L.length
    · have hlt2 : (q : Int) < L.length := by omega
      have hdr := List.drop_eq_getElem_cons hlt
      have hix : ∀ w', (Instr.index 9 (.string ⟨L.toArray⟩) (.int .i64 q)).run Tryz.prog w' = .ok (.int .u8 (L[q]).toNat) w' := src_index Tryz.underlying9 L q hlt
      have HD := Lib.hid hdr
      clear hdr
      generalize L[q] = c at *
      by_cases hb : c.toNat = 32 ∨ c.toNat = 9 ∨ c.toNat = 10
      · have HE2 := Lib.hid (show n + skipL false (L.drop n) = (q + 1) + skipL false (L.drop (q + 1)) from by
          rw [HE.out, HD.out, skipL, if_pos hb]; omega)
        clear HD
        rcases hb with hb | hb | hb
        all_goals
          rw [hb] at hix
          clear hb
          go_wp2_with (first | go_quiet (fail) | fail)
          go_roundw
          case rel => exact ⟨q + 1, by omega, HE2, Lib.hid (rd_set HR.out HG.out _ 1 (.int .i64 ((q : Int) + 1)) rfl).1, Lib.hid (rd_set (q' := q + 1) (tk' := tk) (lv' := lv) HR.out HG.out _ 1 (.int .i64 ((q : Int) + 1)) rfl).2⟩
          case measure =>
            rw [HM.out, nextAt_rd (rd_set (q' := q + 1) (tk' := tk) (lv' := lv) HR.out HG.out _ 1 (.int .i64 ((q : Int) + 1)) rfl).1]; omega
      · by_cases h35 : c.toNat = 35
        · have hdr2 := src_drop (l := L) (i := q) (by omega)
          have HE2 := Lib.hid (show skipL false (L.drop q) = (if Lib.indexByte (L.drop q) 10 < 0 then ((L.drop q).length : Int) else Lib.indexByte (L.drop q) 10).toNat + skipL false ((L.drop q).drop (if Lib.indexByte (L.drop q) 10 < 0 then ((L.drop q).length : Int) else Lib.indexByte (L.drop q) 10).toNat) from by
            rw [← skip_comment, HD.out, skipL, if_neg hb, if_pos h35]
            conv => rhs; rw [skipL, if_neg (by omega)])
          have hC : ∀ W, Calls Tryz.prog 59 #[.string ⟨(L.drop q).toArray⟩, .int .u8 10] W fun e w' => e = .returned (.int .i64 (Lib.indexByte (L.drop q) 10)) ∧ W = w' := sidx_any (L.drop q) 10
          have hge := Lib.indexByte_ge (L.drop q) 10
          have hpos : Lib.indexByte (L.drop q) 10 ≠ 0 := by
            rw [HD.out, Lib.indexByte]
            have : (c == 10) = false := by rw [beq_eq_false_iff_ne, ne_eq, ← UInt8.toNat_inj, h35]; decide
            rw [this]
            have := Lib.indexByte_ge (L.drop (q + 1)) 10
            simp only [Bool.false_eq_true, if_false]
            split
            · omega
            · rename_i h; simp only [beq_iff_eq] at h; omega
          have hlt3 := indexByte_lt (L.drop q) 10
          have hne : L.drop q ≠ [] := by rw [HD.out]; simp
          have hlt4 : Lib.indexByte (L.drop q) 10 < (L.length : Int) - q := by
            rcases hlt3 with h | h
            · rw [List.length_drop] at h; omega
            · exact absurd h hne
          rw [List.length_drop] at HE2
          rw [h35] at hix
          have C := Lib.hid hC
          clear hC hlt3 hne HD hb h35
          generalize Lib.indexByte (L.drop q) 10 = x at *
          by_cases hx : x < 0
          · rw [if_pos hx] at HE2
            have HX := Lib.hid (show n + skipL false (L.drop n) = L.length + skipL false (L.drop L.length) from by
              rw [HE.out, HE2.out, List.drop_drop]
              have : (((L.length - q : Nat) : Int)).toNat = L.length - q := by omega
              rw [this, show q + (L.length - q) = L.length from by omega]; omega)
            clear HE2
            go_wp2_with fail
            go_quiet (fail)
            go_wp2_with fail
            go_quiet (fail)
            go_wp2_with fail
            go_quiet ((go_at_call 59; exact qp2 C.out _ _ _))
            go_wp2_with fail
            go_quiet (fail)
            go_wp2_with fail
            have HS := Lib.hid (fun M => rd_set (q' := L.length) (tk' := tk) (lv' := lv) HR.out HG.out M 1 (.int .i64 ((q : Int) + ((L.length : Int) - q))) (by
              have : (q : Int) + ((L.length : Int) - q) = (L.length : Int) := by omega
              rw [this]; rfl))
            go_roundw
            case rel => exact ⟨L.length, Nat.le_refl _, HX, Lib.hid (HS.out _).1, Lib.hid (HS.out _).2⟩
            case measure => rw [HM.out, nextAt_rd (HS.out _).1]; omega
          · rw [if_neg hx] at HE2
            obtain ⟨m, rfl⟩ := Int.eq_ofNat_of_zero_le (show 0 ≤ x by omega)
            have HX := Lib.hid (show n + skipL false (L.drop n) = (q + m) + skipL false (L.drop (q + m)) from by
              rw [HE.out, HE2.out, List.drop_drop, Int.toNat_natCast]; omega)
            clear HE2
            go_wp2_with fail
            go_quiet (fail)
            go_wp2_with fail
            go_quiet (fail)
            go_wp2_with fail
            go_quiet ((go_at_call 59; exact qp2 C.out _ _ _))
            go_wp2_with fail
            have HS := Lib.hid (fun M => rd_set (q' := q + m) (tk' := tk) (lv' := lv) HR.out HG.out M 1 (.int .i64 ((q : Int) + (m : Int))) (by
              have : (q : Int) + (m : Int) = ((q + m : Nat) : Int) := by omega
              rw [this]; rfl))
            go_roundw
            case rel => exact ⟨q + m, by omega, HX, Lib.hid (HS.out _).1, Lib.hid (HS.out _).2⟩
            case measure => rw [HM.out, nextAt_rd (HS.out _).1]; omega
        · have HE2 := Lib.hid (show skipL false (L.drop q) = 0 from by rw [HD.out, skipL, if_neg hb, if_neg h35])
          have HX := Lib.hid (HE.out.trans (by rw [HE2.out] : q + skipL false (L.drop q) = q + 0))
          have h32 : ((c.toNat : Int) == 32) = false := by rw [beq_eq_false_iff_ne]; omega
          have h9 : ((c.toNat : Int) == 9) = false := by rw [beq_eq_false_iff_ne]; omega
          have h10 : ((c.toNat : Int) == 10) = false := by rw [beq_eq_false_iff_ne]; omega
          have h35b : ((c.toNat : Int) == 35) = false := by rw [beq_eq_false_iff_ne]; omega
          clear hb h35 HD HE2
          go_wp2_with (first | go_quiet (fail) | fail)
          go_end0
          exact ⟨rfl, by rw [HX.out]; exact BlkOf.ext HR.out (Ext.drewN _ _), grown_ext HG.out (Ext.drewN _ _)⟩
    · have hqe : q = L.length := by omega
      have HX := Lib.hid (show n + skipL false (L.drop n) = q from by rw [HE.out, hqe, List.drop_length]; rfl)
      have hlt2 : ¬ (q : Int) < L.length := by omega
      clear hqe
      go_wp2_with (first | go_quiet (fail) | fail)
      go_end0
      exact ⟨rfl, by rw [HX.out]; exact BlkOf.ext HR.out (Ext.drewN _ _), grown_ext HG.out (Ext.drewN _ _)⟩
end Go.Proofs.YtejkepihicphlaaGreatDoor
end
