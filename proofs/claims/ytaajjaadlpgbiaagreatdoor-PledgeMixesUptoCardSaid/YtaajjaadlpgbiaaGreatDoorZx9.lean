/- A sponge on both sides; a sponge and a domain: contracts. The digest of a list, plain: stirring, what stands behind a list, chains. No program in sight. The sponge, the program's side: constants; a matrix times a state: contracts. -/
import Derived.Test.YtaajjaadlpgbiaaGreatDoorV2
import Derived.Test.YtaajjaadlpgbiaaGreatDoorHb
import Derived.Test.YtaajjaadlpgbiaaGreatDoorZx10
section
namespace Go.Att
open Go.RowKit
/-- A sponge over a field. -/
def SpgOf (w : World) (s f : Value) (p : Int) : Prop := ∃ (b k : Nat) (rt : Int), s = .pointer (some ⟨b, 0, none⟩) ∧ IsPw p k ∧ SpB w b f k rt (fun r j => finv p ((r : Int) + j + 8))
theorem SpgOf.ext {w w' : World} {s f : Value} {p : Int} (h : SpgOf w s f p) (hx : Ext w w') : SpgOf w' s f p := by
  obtain ⟨b, k, rt, h1, h2, h3⟩ := h; exact ⟨b, k, rt, h1, h2, h3.ext hx⟩
theorem SpgOf.ptr {w : World} {s f : Value} {p : Int} (h : SpgOf w s f p) : ∃ b, s = .pointer (some ⟨b, 0, none⟩) ∧ w.cell? ⟨b, 0, none⟩ = some f := by
  obtain ⟨b, k, rt, h1, h2, h3⟩ := h; exact ⟨b, h1, h3.c0⟩
def SpgGot (p : Int) (v : Value) (w' : World) : Prop := ∃ s f g, v = .tuple #[s, .bool true] ∧ SpgOf w' s f p ∧ FieldOf w' f p g
end Go.Att
namespace Go.Proofs.YtaajjaadlpgbiaaGreatDoor
open Go.RowKit Go.Att
/-- When things are there. -/
def okT (p n sh : Int) : Prop := okP p ∧ 23 ≤ p ∧ domErr p n sh = 0
def ThingsGot (p n sh : Int) (v : Value) (w' : World) : Prop := ∃ s f g d, v = .tuple #[s, d, .bool true] ∧ SpgOf w' s f p ∧ FieldOf w' f p g ∧ DomOf w' d f n (fof p sh) (froot p g n)

set_option maxRecDepth 100000 in
set_option maxHeartbeats 1000000 in
theorem sfieldof_any {w : World} {b : Nat} {f : Value} (h : w.cell? ⟨b, 0, none⟩ = some f) : Calls Tryz.prog 7 #[.pointer (some ⟨b, 0, none⟩)] w fun e w' => e = .returned f ∧ w = w' := by
  go_enter Tryz.func7, Tryz.ntmps7
  go_wp2
  go_ret
  exact ⟨rfl, rfl⟩

set_option maxRecDepth 100000 in
set_option maxHeartbeats 1000000 in
theorem sspg_bad (p : Int) (w : World) (h : ¬ okP p) (hg : Hnd w) :
    Calls Tryz.prog 18 #[.int .i64 p] w (Gives w fun v _ => v = .tuple #[.pointer none, .bool true]) := by
  have H := Lib.hid h; have HG := Lib.hid hg; clear h hg
  go_enter Tryz.func18, Tryz.ntmps18
  go_wp2_with (go_at_call 45; refine (sfield_bad _ _ H.out HG.out).mono ?_; rintro e w' ⟨v, rfl, hx, rfl⟩)
  go_ret2
  exact .mk _ rfl hx rfl

set_option maxRecDepth 100000 in
set_option maxHeartbeats 1000000 in
theorem sspg_low (p : Int) (w : World) (h : okP p) (h23 : p < 23) (hg : Hnd w) :
    Calls Tryz.prog 18 #[.int .i64 p] w (Gives w fun v _ => v = .tuple #[.pointer none, .bool true]) := by
  have H := Lib.hid h; have HG := Lib.hid hg; clear h hg
  have hev := errv_pos (k := 3) (by decide)
  have h23' : ¬ 23 ≤ p := by omega
  go_enter Tryz.func18, Tryz.ntmps18
  go_wp2_with (first | (go_at_call 45; refine (sfield_ok _ _ H.out HG.out).mono ?_; rintro e w1 ⟨v, rfl, hx, f, g, rfl, hf⟩; obtain ⟨b, rfl⟩ := hf.ptr; obtain ⟨fs, hfs⟩ := hf.fld; have HF := Lib.hid hfs; clear hf hfs) | (go_at_call 46; refine (snew_bad HF.out h23).mono ?_; rw [hev]; rintro e w2 hrd; obtain ⟨rfl, hx2⟩ := hrd.ext; clear hrd) | (go_at_call 9; rw [← hev]; refine (error_any 3 3 _ (HG.out.ext (hx.trans hx2))).mono ?_; rintro e w3 ⟨rfl, hx3⟩))
  go_ret2
  exact .mk _ rfl ((hx.trans hx2).trans hx3) rfl

set_option maxRecDepth 100000 in
set_option maxHeartbeats 1000000 in
theorem sspg_ok (p : Int) (w : World) (h : okP p) (h23 : 23 ≤ p) (hg : Hnd w) :
    Calls Tryz.prog 18 #[.int .i64 p] w (Gives w (SpgGot p)) := by
  have H := Lib.hid h; have HG := Lib.hid hg; clear h hg
  go_enter Tryz.func18, Tryz.ntmps18
  go_wp2_with (first | (go_at_call 45; refine (sfield_ok _ _ H.out HG.out).mono ?_; rintro e w1 ⟨v, rfl, hx, f, g, rfl, hf⟩; obtain ⟨b, rfl⟩ := hf.ptr; obtain ⟨fs, hfs⟩ := hf.fld; have HF := Lib.hid hfs; have HFO := Lib.hid hf; clear hf hfs) | (go_at_call 46; refine (snew_ok HF.out h23).mono ?_; rintro e w2 ⟨v, rfl, hx2, bs, k, rt, rfl, hpw, hsp⟩; have HPW := Lib.hid hpw; have HSP := Lib.hid hsp; clear hpw hsp) | (go_at_call 9; refine (error_any 0 0 _ (HG.out.ext (hx.trans hx2))).mono ?_; rintro e w3 ⟨rfl, hx3⟩))
  go_ret2
  exact .mk _ rfl ((hx.trans hx2).trans hx3) ⟨_, _, g, rfl, ⟨bs, k, rt, rfl, HPW.out, HSP.out.ext hx3⟩, HFO.out.ext (hx2.trans hx3)⟩

set_option maxRecDepth 100000 in
set_option maxHeartbeats 1000000 in
theorem things_bad (p n sh : Int) (w : World) (h : ¬ okT p n sh) (hg : Hnd w) :
    Calls Tryz.prog 6 #[.int .i64 p, .int .i64 n, .int .i64 sh] w (Gives w fun v _ => v = .tuple #[.pointer none, .pointer none, .bool true]) := by
  have HG := Lib.hid hg; clear hg
  by_cases h1 : okP p
  · have hlo := h1.2.1; have hhi := h1.2.2
    have H := Lib.hid h1
    by_cases h2 : p < 23
    · clear h h1
      go_enter Tryz.func6, Tryz.ntmps6
      go_wp2_with (go_at_call 18; refine (sspg_low _ _ H.out h2 HG.out).mono ?_; rintro e w' ⟨v, rfl, hx, rfl⟩)
      go_ret3
      exact .mk _ rfl hx rfl
    · have h23 : 23 ≤ p := by omega
      have hE : domErr p n sh ≠ 0 := fun e => h ⟨h1, h23, e⟩
      have HE := Lib.hid hE
      have hb : (domErr p n sh != 0) = true := by rw [bne_iff_ne]; exact hE
      have hev := errv_pos hE
      clear h h1 hE h2
      go_enter Tryz.func6, Tryz.ntmps6
      go_wp2_with (first | (go_at_call 18; refine (sspg_ok _ _ H.out h23 HG.out).mono ?_; rintro e w1 ⟨v, rfl, hx, s, f, g, rfl, hs, hf⟩; obtain ⟨bs, rfl, hc⟩ := hs.ptr; obtain ⟨b, rfl⟩ := hf.ptr; obtain ⟨fs, hfs⟩ := hf.fld; have HF := Lib.hid hfs; clear hf hfs hs) | (go_at_call 7; refine (sfieldof_any hc).mono ?_; rintro e w' ⟨rfl, rfl⟩) | (go_at_call 24; refine (dnew_bad HF.out _ _ HE.out).mono ?_; rw [hev]; rintro e w2 hrd; obtain ⟨rfl, hx2⟩ := hrd.ext; clear hrd) | (go_at_call 25; refine (rfault_any _ _ _ _ hlo hhi).mono ?_; rintro e w3 ⟨rfl, rfl⟩) | (go_at_call 9; rw [← hev]; refine (error_any _ _ _ (HG.out.ext (hx.trans hx2))).mono ?_; rintro e w3 ⟨rfl, hx3⟩))
      go_ret3
      exact .mk _ rfl ((hx.trans hx2).trans hx3) (by simp)
  · have H := Lib.hid h1
    clear h h1
    go_enter Tryz.func6, Tryz.ntmps6
    go_wp2_with (go_at_call 18; refine (sspg_bad _ _ H.out HG.out).mono ?_; rintro e w' ⟨v, rfl, hx, rfl⟩)
    go_ret3
    exact .mk _ rfl hx rfl

set_option maxRecDepth 100000 in
set_option maxHeartbeats 1000000 in
theorem things_ok (p n sh : Int) (w : World) (h : okT p n sh) (hg : Hnd w) :
    Calls Tryz.prog 6 #[.int .i64 p, .int .i64 n, .int .i64 sh] w (Gives w (ThingsGot p n sh)) := by
  have HG := Lib.hid hg; clear hg
  obtain ⟨h1, h23, hE⟩ := h
  have hlo := h1.2.1; have hhi := h1.2.2
  have H := Lib.hid h1
  have HE := Lib.hid hE
  have hb : (domErr p n sh != 0) = false := by rw [bne_eq_false_iff_eq]; exact hE
  clear h1 hE
  go_enter Tryz.func6, Tryz.ntmps6
  go_wp2_with (first | (go_at_call 18; refine (sspg_ok _ _ H.out h23 HG.out).mono ?_; rintro e w1 ⟨v, rfl, hx, s, f, g, rfl, hs, hf⟩; obtain ⟨bs, rfl, hc⟩ := hs.ptr; obtain ⟨b, rfl⟩ := hf.ptr; have HF := Lib.hid hf; have HS := Lib.hid hs; clear hf hs) | (go_at_call 7; refine (sfieldof_any hc).mono ?_; rintro e w' ⟨rfl, rfl⟩) | (go_at_call 24; refine (dnew_ok HF.out _ _ HE.out).mono ?_; rintro e w2 ⟨v, rfl, hx2, d, rfl, hd⟩; obtain ⟨bd, rfl⟩ := hd.ptr; have HD := Lib.hid hd; clear hd) | (go_at_call 25; refine (rfault_any _ _ _ _ hlo hhi).mono ?_; rintro e w3 ⟨rfl, rfl⟩) | (go_at_call 9; refine (error_any 0 _ _ (HG.out.ext (hx.trans hx2))).mono ?_; rw [HE.out]; rintro e w3 ⟨rfl, hx3⟩))
  go_ret3
  exact .mk _ rfl ((hx.trans hx2).trans hx3) ⟨_, _, g, _, rfl, HS.out.ext (hx2.trans hx3), HF.out.ext (hx2.trans hx3), HD.out.ext hx3⟩
end Go.Proofs.YtaajjaadlpgbiaaGreatDoor
end
section
namespace Go.Att
/-- A sum of the first terms. -/
def dotP (p : Int) (f : Nat → Int) : Nat → Int
  | 0 => 0
  | j + 1 => fadd p (dotP p f j) (f j)
theorem dotP_congr {p : Int} {f g : Nat → Int} : ∀ {n : Nat}, (∀ j, j < n → f j = g j) → dotP p f n = dotP p g n := by
  intro n
  induction n with
  | zero => intro _; rfl
  | succ n ih => intro h; rw [dotP, dotP, ih (fun j hj => h j (by omega)), h n (by omega)]
/-- A state times the matrix. -/
def mixT (p : Int) (x : List Int) : List Int := (List.range 8).map fun (i : Nat) => dotP p (fun j => fmul p (finv p ((i : Int) + j + 8)) (nth x j)) 8
/-- What is added in a round. -/
def cstP (p : Int) (r i : Nat) : Int := fadd p (fpow p (8 * (r : Int) + i + 1) 5) 3
def powP (p : Int) (k r : Nat) (x : List Int) : List Int := (List.range 8).map fun i => fpow p (fadd p (nth x i) (cstP p r i)) k
/-- So many rounds. -/
def permP (p : Int) (k : Nat) (x : List Int) : Nat → List Int
  | 0 => x
  | r + 1 => mixT p (powP p k r (permP p k x r))
theorem mixT_length (p : Int) (x : List Int) : (mixT p x).length = 8 := by simp [mixT]
theorem powP_length (p : Int) (k r : Nat) (x : List Int) : (powP p k r x).length = 8 := by simp [powP]
theorem permP_length (p : Int) (k : Nat) {x : List Int} (h : x.length = 8) (r : Nat) : (permP p k x r).length = 8 := by
  cases r with
  | zero => exact h
  | succ r => exact mixT_length _ _
theorem mixT_nth (p : Int) (x : List Int) {i : Nat} (h : i < 8) : nth (mixT p x) i = dotP p (fun j => fmul p (finv p ((i : Int) + j + 8)) (nth x j)) 8 := by
  rw [nth_eq (by rw [mixT_length]; exact h)]; simp [mixT]
theorem powP_nth (p : Int) (k r : Nat) (x : List Int) {i : Nat} (h : i < 8) : nth (powP p k r x) i = fpow p (fadd p (nth x i) (cstP p r i)) k := by
  rw [nth_eq (by rw [powP_length]; exact h)]; simp [powP]
/-- How many zeros stand behind a list of this length and its 1. -/
def padN (n : Nat) : Nat := (3 - n % 4)
/-- A list with what stands behind it. -/
def padP (p : Int) (l : List Int) : List Int := l.map (fof p) ++ 1 :: List.replicate (padN l.length) 0
theorem padP_length (p : Int) (l : List Int) : (padP p l).length = l.length + 1 + padN l.length := by simp [padP]; omega
theorem padP_four (p : Int) (l : List Int) : (padP p l).length % 4 = 0 := by rw [padP_length]; unfold padN; omega
/-- The parts of four that were taken in. -/
def absP (p : Int) (m : List Int) (c : Nat) (x : List Int) : List Int := (List.range 8).map fun i => if i < 4 then fadd p (nth x i) (nth m (4 * c + i)) else nth x i
def hashS (p : Int) (k : Nat) (m : List Int) : Nat → List Int
  | 0 => List.replicate 8 0
  | c + 1 => permP p k (absP p m c (hashS p k m c)) 8
def hashP (p : Int) (k : Nat) (l : List Int) : List Int := (hashS p k (padP p l) ((padP p l).length / 4)).take 4
theorem absP_length (p : Int) (m : List Int) (c : Nat) (x : List Int) : (absP p m c x).length = 8 := by simp [absP]
theorem absP_nth (p : Int) (m : List Int) (c : Nat) (x : List Int) {i : Nat} (h : i < 8) : nth (absP p m c x) i = if i < 4 then fadd p (nth x i) (nth m (4 * c + i)) else nth x i := by
  rw [nth_eq (by rw [absP_length]; exact h)]; simp [absP]
theorem hashS_length (p : Int) (k : Nat) (m : List Int) (c : Nat) : (hashS p k m c).length = 8 := by
  cases c with
  | zero => simp [hashS]
  | succ c => exact permP_length _ _ (absP_length _ _ _ _) _
theorem hashP_length (p : Int) (k : Nat) (l : List Int) : (hashP p k l).length = 4 := by
  unfold hashP; rw [List.length_take, hashS_length]; rfl
end Go.Att
end
section
namespace Go.Att
open Go.RowKit
/-- A state of eight numbers, as cells and as a value. -/
def c8 (l : List Int) : List Value := [.int .i64 (nth l 0), .int .i64 (nth l 1), .int .i64 (nth l 2), .int .i64 (nth l 3), .int .i64 (nth l 4), .int .i64 (nth l 5), .int .i64 (nth l 6), .int .i64 (nth l 7)]
def st8 (l : List Int) : Value := .agg #[.int .i64 (nth l 0), .int .i64 (nth l 1), .int .i64 (nth l 2), .int .i64 (nth l 3), .int .i64 (nth l 4), .int .i64 (nth l 5), .int .i64 (nth l 6), .int .i64 (nth l 7)]
theorem nth_set (l : List Int) (i j : Nat) (x : Int) (h : i < l.length) : nth (l.set i x) j = if j = i then x else nth l j := by
  unfold nth
  simp only [List.getD_eq_getElem?_getD, List.getElem?_set]
  by_cases e : i = j
  · subst e; simp [h]
  · rw [if_neg e, if_neg (fun h => e h.symm)]
theorem c8_set (l : List Int) (i : Nat) (x : Int) (hl : l.length = 8) (hi : i < 8) : (c8 l).set i (.int .i64 x) = c8 (l.set i x) := by
  unfold c8
  simp only [nth_set _ _ _ _ (show i < l.length by omega)]
  have h8 : i = 0 ∨ i = 1 ∨ i = 2 ∨ i = 3 ∨ i = 4 ∨ i = 5 ∨ i = 6 ∨ i = 7 := by omega
  rcases h8 with rfl | rfl | rfl | rfl | rfl | rfl | rfl | rfl <;> rfl
theorem c8_at (l : List Int) (i : Nat) (hi : i < 8) : (c8 l)[i]? = some (.int .i64 (nth l i)) := by
  have h8 : i = 0 ∨ i = 1 ∨ i = 2 ∨ i = 3 ∨ i = 4 ∨ i = 5 ∨ i = 6 ∨ i = 7 := by omega
  rcases h8 with rfl | rfl | rfl | rfl | rfl | rfl | rfl | rfl <;> rfl
theorem c8_map (l : List Int) (hl : l.length = 8) : c8 l = l.map (Value.int .i64) := by
  apply List.ext_getElem?
  intro i
  by_cases hi : i < 8
  · rw [c8_at l i hi]
    simp [List.getElem?_eq_getElem (show i < l.length by omega), nth_eq (show i < l.length by omega)]
  · rw [List.getElem?_eq_none (by simp [c8]; omega), List.getElem?_eq_none (by simp; omega)]
/-- The rows so far, and of the next one the sum so far. -/
def mixU (p : Int) (M : Nat → Nat → Int) (x : List Int) (i j : Nat) : List Int := (List.range 8).map fun r => if r < i then dotP p (fun k => fmul p (M r k) (nth x k)) 8 else if r = i then dotP p (fun k => fmul p (M r k) (nth x k)) j else 0
theorem mixU_length (p : Int) (M : Nat → Nat → Int) (x : List Int) (i j : Nat) : (mixU p M x i j).length = 8 := by simp [mixU]
theorem mixU_nth (p : Int) (M : Nat → Nat → Int) (x : List Int) (i j : Nat) {r : Nat} (hr : r < 8) : nth (mixU p M x i j) r = if r < i then dotP p (fun k => fmul p (M r k) (nth x k)) 8 else if r = i then dotP p (fun k => fmul p (M r k) (nth x k)) j else 0 := by
  rw [nth_eq (by rw [mixU_length]; exact hr)]; simp [mixU]
theorem mixU_zero (p : Int) (M : Nat → Nat → Int) (x : List Int) : mixU p M x 0 0 = List.replicate 8 0 := by
  apply List.ext_getElem (by simp [mixU])
  intro r h1 h2
  simp only [mixU, List.getElem_map, List.getElem_range, List.getElem_replicate]
  by_cases h : r = 0
  · subst h; simp [dotP]
  · simp [h]
theorem mixU_step (p : Int) (M : Nat → Nat → Int) (x : List Int) (i j : Nat) (hi : i < 8) : (mixU p M x i j).set i (fadd p (nth (mixU p M x i j) i) (fmul p (M i j) (nth x j))) = mixU p M x i (j + 1) := by
  apply List.ext_getElem (by simp [mixU])
  intro r h1 h2
  have hr : r < 8 := by simpa [mixU] using h2
  rw [List.getElem_set]
  by_cases h : i = r
  · subst h
    rw [if_pos rfl, mixU_nth p M x i j hi, if_neg (by omega), if_pos rfl]
    simp [mixU, dotP]
  · rw [if_neg h]
    simp [mixU, show ¬ r = i from fun e => h e.symm]
theorem mixU_next (p : Int) (M : Nat → Nat → Int) (x : List Int) (i : Nat) : mixU p M x i 8 = mixU p M x (i + 1) 0 := by
  unfold mixU
  refine List.map_congr_left fun r _ => ?_
  by_cases h : r < i
  · rw [if_pos h, if_pos (by omega)]
  · rw [if_neg h]
    by_cases h2 : r = i
    · rw [if_pos h2, if_pos (by omega)]
    · rw [if_neg h2, if_neg (by omega)]
      by_cases h3 : r = i + 1
      · rw [if_pos h3]; rfl
      · rw [if_neg h3]
theorem mixU_all (p : Int) (x : List Int) : mixU p (fun r j => finv p ((r : Int) + j + 8)) x 8 0 = mixT p x := by
  unfold mixU mixT
  refine List.map_congr_left fun r hr => ?_
  rw [if_pos (List.mem_range.1 hr)]
end Go.Att
namespace Go.Proofs.YtaajjaadlpgbiaaGreatDoor
open Go.RowKit Go.Att
section
variable {w : World} {b bf : Nat} {p g k rt : Int} {fs : List Int} {M : Nat → Nat → Int}
set_option maxRecDepth 100000 in
set_option maxHeartbeats 4000000 in
theorem constant_any (hs : SpB w b (.pointer (some ⟨bf, 0, none⟩)) k rt M) (hf : Fld w (.pointer (some ⟨bf, 0, none⟩)) p g fs) (r i : Nat) (hr : r < 8) (hi : i < 8) :
    Calls Tryz.prog 164 #[.pointer (some ⟨b, 0, none⟩), .int .i64 r, .int .i64 i] w (Rd w (.int .i64 (cstP p r i))) := by
  have HF := Lib.hid hf
  have c0 := hs.c0
  have hr2 : (r : Int) < 8 := by omega
  have hi2 : (i : Int) < 8 := by omega
  have hr3 : (0 : Int) ≤ r := by omega
  have hi3 : (0 : Int) ≤ i := by omega
  clear hs hf
  go_enter Tryz.func164, Tryz.ntmps164
  go_wp2_with fail
  go_quiet ((first | (go_at_call 30; exact pow_q HF.out _ _ (by omega) (by omega) _) | (go_at_call 70; exact add_q HF.out _ _ _)))
  go_wp2_with fail
  go_ret
  exact .more _ rfl
theorem ptr8_0 (sb off : Nat) (w : World) : (Instr.indexAt 71 (.pointer (some ⟨sb, off, none⟩)) (.int .i64 0)).run Tryz.prog w = .ok (.pointer (some ⟨sb, off + 0, none⟩)) w := by kernel_rfl
theorem ptr8_1 (sb off : Nat) (w : World) : (Instr.indexAt 71 (.pointer (some ⟨sb, off, none⟩)) (.int .i64 1)).run Tryz.prog w = .ok (.pointer (some ⟨sb, off + 1, none⟩)) w := by kernel_rfl
theorem ptr8_2 (sb off : Nat) (w : World) : (Instr.indexAt 71 (.pointer (some ⟨sb, off, none⟩)) (.int .i64 2)).run Tryz.prog w = .ok (.pointer (some ⟨sb, off + 2, none⟩)) w := by kernel_rfl
theorem ptr8_3 (sb off : Nat) (w : World) : (Instr.indexAt 71 (.pointer (some ⟨sb, off, none⟩)) (.int .i64 3)).run Tryz.prog w = .ok (.pointer (some ⟨sb, off + 3, none⟩)) w := by kernel_rfl
theorem ptr8_4 (sb off : Nat) (w : World) : (Instr.indexAt 71 (.pointer (some ⟨sb, off, none⟩)) (.int .i64 4)).run Tryz.prog w = .ok (.pointer (some ⟨sb, off + 4, none⟩)) w := by kernel_rfl
theorem ptr8_5 (sb off : Nat) (w : World) : (Instr.indexAt 71 (.pointer (some ⟨sb, off, none⟩)) (.int .i64 5)).run Tryz.prog w = .ok (.pointer (some ⟨sb, off + 5, none⟩)) w := by kernel_rfl
theorem ptr8_6 (sb off : Nat) (w : World) : (Instr.indexAt 71 (.pointer (some ⟨sb, off, none⟩)) (.int .i64 6)).run Tryz.prog w = .ok (.pointer (some ⟨sb, off + 6, none⟩)) w := by kernel_rfl
theorem ptr8_7 (sb off : Nat) (w : World) : (Instr.indexAt 71 (.pointer (some ⟨sb, off, none⟩)) (.int .i64 7)).run Tryz.prog w = .ok (.pointer (some ⟨sb, off + 7, none⟩)) w := by kernel_rfl
theorem ptr8 (sb off j : Nat) (hj : j < 8) (w : World) : (Instr.indexAt 71 (.pointer (some ⟨sb, off, none⟩)) (.int .i64 (j : Int))).run Tryz.prog w = .ok (.pointer (some ⟨sb, off + j, none⟩)) w := by
  have h8 : j = 0 ∨ j = 1 ∨ j = 2 ∨ j = 3 ∨ j = 4 ∨ j = 5 ∨ j = 6 ∨ j = 7 := by omega
  rcases h8 with rfl | rfl | rfl | rfl | rfl | rfl | rfl | rfl
  · exact ptr8_0 _ _ w
  · exact ptr8_1 _ _ w
  · exact ptr8_2 _ _ w
  · exact ptr8_3 _ _ w
  · exact ptr8_4 _ _ w
  · exact ptr8_5 _ _ w
  · exact ptr8_6 _ _ w
  · exact ptr8_7 _ _ w
end
end Go.Proofs.YtaajjaadlpgbiaaGreatDoor
end
