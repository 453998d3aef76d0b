/- What a table is at a point, the program's side: Extend. A circuit of one gate, built in place. What is not so is seen by nearly all numbers: plain laws. What goes through numbers at 0, 1, .. is one: plain laws. No program in sight. Words for worlds: a matrix of eight rows of eight numbers in a block of its own. No program in sight. -/
import Derived.Test.YtaajjaadlpgbiaaGreatDoorZx6
import Derived.Test.YtaajjaadlpgbiaaGreatDoorZx2
import Derived.Test.YtaajjaadlpgbiaaGreatDoorZx1
import Derived.Test.YtaajjaadlpgbiaaGreatDoorVc
section
namespace Go.Att
open Go.RowKit
theorem ext_end (p : Int) (t at_ : List Int) (k : Nat) (hl : t.length = 2 ^ k) (hla : at_.length = k) : fof p (nth (fixAll p t at_) 0) = ext t at_ % p := by
  have := half_is p t at_ k 0 (by omega) hl
  rw [hla, Nat.sub_self] at this
  simpa [bitsL, fof] using this
/-- A circuit of one gate that multiplies. -/
def oneC : List (List Tri) := [[(1, 0, 0)]]
theorem oneC_err : cirErr 0 oneC = 0 := by
  refine cirErr_zero ⟨by decide, by decide, by decide, by decide, fun i hi => ?_⟩ fun i hi k hk => ?_
  · have : i = 0 := by simp [oneC] at hi; exact hi
    subst this; decide
  · have : i = 0 := by simp [oneC] at hi; exact hi
    subst this
    have : k = 0 := by simp [oneC, nthY] at hk; exact hk
    subst this
    simp [gateOk, oneC, nthY, nthT, below]
theorem oneC_walk : walkErr 0 oneC ([1] : List Int).length = 0 := by unfold walkErr; rw [if_pos oneC_err]; rfl
theorem oneC_row {p : Int} (hp : 2 ≤ p) : vrow p oneC [1] 1 = [1] := by
  have h1 : (1 : Int) % p = 1 := one_mod hp
  simp [vrow, oneC, nthY, gval, nth, fmul, fof, h1]
theorem lys_one (w : World) (tg tl : TypeId) : LysAt ((w.alloc (Obj.cells #[.int .i64 1, .int .i64 0, .int .i64 0] tg)).alloc (Obj.cells #[.slice (some ⟨w.heap.size, 0, none⟩) 1 1] tl)) (.slice (some ⟨w.heap.size + 1, 0, none⟩) 1 1) oneC (fun _ => .slice (some ⟨w.heap.size, 0, none⟩) 1 1) := by
  refine ⟨⟨_, _, rfl, rfl, Nat.le_refl _, by unfold maxLen; omega, fun i hi => ?_⟩, fun i hi => ?_⟩
  · have h0 : i = 0 := by simpa [oneC] using hi
    subst h0
    have := cell_new (w.alloc (Obj.cells #[.int .i64 1, .int .i64 0, .int .i64 0] tg)) #[.slice (some ⟨w.heap.size, 0, none⟩) 1 1] tl 0
    have hs : (w.alloc (Obj.cells #[.int .i64 1, .int .i64 0, .int .i64 0] tg)).heap.size = w.heap.size + 1 := by simp
    rw [hs] at this
    exact ⟨_, _, rfl, this⟩
  · have h0 : i = 0 := by simpa [oneC] using hi
    subst h0
    have hx := Ext.alloc (w.alloc (Obj.cells #[.int .i64 1, .int .i64 0, .int .i64 0] tg)) (Obj.cells #[.slice (some ⟨w.heap.size, 0, none⟩) 1 1] tl)
    refine Trs.ext (w := w.alloc (Obj.cells #[.int .i64 1, .int .i64 0, .int .i64 0] tg)) ⟨_, _, rfl, rfl, Nat.le_refl _, by unfold maxLen; omega, fun j hj => ?_⟩ hx
    have h3 : j = 0 ∨ j = 1 ∨ j = 2 := by simp [flatT, oneC, nthY] at hj; omega
    rcases h3 with rfl | rfl | rfl
    · exact ⟨_, _, rfl, cell_new w #[.int .i64 1, .int .i64 0, .int .i64 0] tg 0⟩
    · exact ⟨_, _, rfl, cell_new w #[.int .i64 1, .int .i64 0, .int .i64 0] tg 1⟩
    · exact ⟨_, _, rfl, cell_new w #[.int .i64 1, .int .i64 0, .int .i64 0] tg 2⟩
theorem own_grown {w w' : World} {B e sz n : Nat} {v : Value} {xs : List Value} {r : Option Nat} (h : w.ownsRow B e sz v n xs) (hg : w.grownBy w' r) (hne : ∀ k, v.ownBlock = some k → some k ≠ r) : w'.ownsRow B e sz v n xs := by
  refine ⟨h.1, ?_⟩
  rcases h.2 with h2 | ⟨g, cap, cur, hv, hb, hgt, hr⟩
  · exact .inl h2
  · exact .inr ⟨g, cap, cur, hv, hb, by rw [hg.block g (Array.getElem?_eq_some_iff.1 hgt).1 (hne g (by rw [hv]; rfl))]; exact hgt, hr⟩
theorem ints_cs (l : List Int) : ∀ u ∈ l.map (Value.int .i64), u.oneCell' = true := by
  intro u hu; obtain ⟨x, -, rfl⟩ := List.mem_map.1 hu; rfl
/-- A list of one number, built in place. -/
theorem ints_lit (w : World) (x : Int) (ti : TypeId) : Ints (w.alloc (Obj.cells #[.int .i64 x] ti)) (.slice (some ⟨w.heap.size, 0, none⟩) 1 1) [x] := by
  refine ⟨_, _, rfl, rfl, Nat.le_refl _, by unfold maxLen; omega, fun i hi => ?_⟩
  have h0 : i = 0 := by simpa using hi
  subst h0
  exact ⟨_, _, rfl, cell_new w #[.int .i64 x] ti 0⟩
end Go.Att
namespace Go.Att
open Go.RowKit
theorem partR_bad {p wd : Int} {Ls : List (List Tri)} {inp z xs : List Int} {layer E : Int} (h : partErr wd Ls inp.length layer z.length xs.length = E) (hE : E ≠ 0) : partR p wd Ls inp layer z xs = 0 := by unfold partR; rw [h, if_neg hE]
theorem partR_ok {p wd : Int} {Ls : List (List Tri)} {inp z xs : List Int} {i : Nat} (h : partErr wd Ls inp.length i z.length xs.length = 0) : partR p wd Ls inp i z xs = partV p wd Ls inp i z xs := by unfold partR; rw [if_pos h, Int.toNat_natCast]
theorem gval_gop (p : Int) (row : List Int) (g : Tri) : gval p row g = gop g.1 (nth row g.2.1.toNat) (nth row g.2.2.toNat) % p := by
  unfold gval gop; split <;> rfl
theorem nth_map_tri (f : Tri → Int) (l : List Tri) (k : Nat) (h : k < l.length) : nth (l.map f) k = f (nthT l k) := by
  rw [nthT_eq h]; simp [nth, h]
/-- A layer is the sum over its wires. -/
theorem layer_sum {p wd : Int} {Ls : List (List Tri)} {inp : List Int} (hE : cirErr wd Ls = 0) (hin : (inp.length : Int) = 2 ^ wd.toNat) {i : Nat} (hi : i < Ls.length) (z : List Int) : partV p wd Ls inp i z [] = ext (vrow p Ls inp (i + 1)) z % p := by
  have hbd := beneath_bd (cirErr_ok hE).1 hi
  obtain ⟨n, hn⟩ := Int.eq_ofNat_of_zero_le hbd.1
  have hbp := below_pow (cirErr_ok hE).1 hi
  rw [hn, Int.toNat_natCast] at hbp
  unfold partV
  rw [hn, Int.toNat_natCast]
  refine partS_nil p (nthY Ls i) n (vrow p Ls inp i) z (vrow p Ls inp (i + 1)) (vrow_two hE hin hi hn) (fun k hk => ?_) (by simp [vrow]) (fun k hk => ?_)
  · have hok := (cirErr_ok hE).2 i hi k hk
    rw [hbp] at hok
    obtain ⟨o1, o2, o3, o4, o5, o6⟩ := hok
    have e1 : ((2 ^ n : Nat) : Int) = (2 : Int) ^ n := by simp
    show (nthT (nthY Ls i) k).2.1.toNat < 2 ^ n ∧ (nthT (nthY Ls i) k).2.2.toNat < 2 ^ n
    omega
  · show nth ((nthY Ls i).map (gval p (vrow p Ls inp i))) k = _
    rw [nth_map_tri _ _ _ hk, gval_gop]; rfl
/-- What a variable makes of it. -/
theorem layer_snoc (p wd : Int) (Ls : List (List Tri)) (inp : List Int) (i : Nat) (z xs : List Int) (h : (xs.length : Int) < 2 * beneath wd Ls i) : partV p wd Ls inp i z xs = fadd p (partV p wd Ls inp i z (xs ++ [0])) (partV p wd Ls inp i z (xs ++ [1])) := by
  unfold partV
  rw [partS_snoc _ _ _ _ _ _ (by omega)]
  simp only [fadd, ea_l, ea_r]
end Go.Att
namespace Go.Proofs.YtaajjaadlpgbiaaGreatDoor
open Go.RowKit Go.Att
section
variable {w : World} {f : Value} {p g : Int} {fs : List Int}
set_option maxRecDepth 100000 in
set_option maxHeartbeats 1000000 in
theorem sExtend_ok (hf : Fld w f p g fs) (vt va : Value) (t at_ : List Int) (ht : Ints w vt t) (ha : Ints w va at_) (k : Nat) (hk : k ≤ 12) (hl : t.length = 2 ^ k) (hla : at_.length = k) :
    Calls Tryz.prog 23 #[f, vt, va] w fun e w' => e = .returned (.tuple #[.int .i64 (ext t at_ % p), .nilIface]) ∧ Ext w w' := by
  have e : varOf t.length = k := by rw [hl, Int.natCast_pow]; exact varOf_of k hk
  have hlen : (2 : Nat) ^ k ≤ 2 ^ 12 := Nat.pow_le_pow_right (by decide) hk
  have h12 : (2 : Nat) ^ 12 = 4096 := by decide
  have HP2 := Lib.hid (show (2 : Nat) ^ k ≤ 1048576 by omega)
  have hlv := ha.run_len (P := Tryz.prog) slInts
  have HT := Lib.hid ht; have HA := Lib.hid ha; have C := Lib.hid hf; have E := Lib.hid e; have HL := Lib.hid hl; have EE := Lib.hid (ext_end p t at_ k hl hla)
  have b1 : ((at_.length : Int) != (k : Int)) = false := by rw [bne_eq_false_iff_eq]; omega
  clear ht ha hf hl e hlen h12
  go_enter Tryz.func23, Tryz.ntmps23
  go_wp2_with (go_at_call 64; refine (svars_any _ _ _ HT.out).mono ?_; rw [E.out]; rintro e w' ⟨rfl, rfl⟩)
  go_loopw [1, 10, 24] (fun x1 _ x24 wr => ∃ j : Nat, j ≤ at_.length ∧ x24 = .int .i64 j ∧ Ints wr x1 (fixAll p t (at_.take j)) ∧ Ext w wr) (fun _ _ x24 _ => at_.length - (intOf x24).toNat)
  case atStart => exact ⟨0, Nat.zero_le _, rfl, HT.out, Ext.refl _⟩
  case round =>
    obtain ⟨j, hj, rfl, hT, hx⟩ := hrel
    have HTJ := Lib.hid hT; clear hT
    by_cases hjl : j < at_.length
    · have hix := HA.out.run_index (P := Tryz.prog) slInts j hjl
      have hc := (HA.out.ext hx).cell j hjl
      have ST := Lib.hid (fixAll_step p t at_ hjl)
      have HLN := Lib.hid (show (fixAll p t (at_.take j)).length ≤ 1048576 by
        rw [fixAll_length p t (at_.take j) (k - j) (by rw [HL.out, List.length_take]; congr 1; omega)]
        exact Nat.le_trans (Nat.pow_le_pow_right (by decide) (Nat.sub_le k j)) HP2.out)
      go_wp2_with (go_at_call 65; refine (sfixed_any (C.out.ext hx) _ _ _ HTJ.out HLN.out).mono ?_; rintro e w3 ⟨v, rfl, hx3, hu⟩; have HU := Lib.hid hu; clear hu)
      go_roundw
      case rel => exact ⟨j + 1, by omega, by go_num, by rw [ST.out]; exact HU.out, hx.trans hx3⟩
      case measure => simp [intOf]; omega
    · obtain rfl : j = at_.length := by omega
      rw [List.take_length] at HTJ
      have h1 : 0 < (fixAll p t at_).length := by rw [fixAll_length p t at_ 0 (by rw [HL.out, hla]; rfl)]; decide
      have hix := HTJ.out.run_index (P := Tryz.prog) slInts 0 h1
      have hc := HTJ.out.cell 0 h1
      rw [show ((0 : Nat) : Int) = 0 from rfl] at hix
      clear h1
      go_wp2_with (go_at_call 66; refine (of_any (C.out.ext hx) _).mono ?_; rw [EE.out]; rintro e w4 hrd; obtain ⟨rfl, hx4⟩ := hrd.ext; clear hrd)
      go_ret2
      exact ⟨rfl, hx.trans hx4⟩
end
end Go.Proofs.YtaajjaadlpgbiaaGreatDoor
end
section
namespace Go.Att
theorem PolyN.sub {m : Nat} {f g : Int → Int} (h1 : PolyN m f) (h2 : PolyN m g) : PolyN m fun t => f t - g t :=
  (h1.add (h2.smul (-1))).congr fun t => by omega
theorem eq_mod_sub {p a b : Int} (h : a % p = b % p) : (a - b) % p = 0 := Int.emod_eq_emod_iff_emod_sub_eq_zero.1 h
theorem mod_sub_eq {p a b : Int} (h : (a - b) % p = 0) : a % p = b % p := Int.emod_eq_emod_iff_emod_sub_eq_zero.2 h
theorem idx_apart {p : Int} (n : Nat) (hn : (n : Int) ≤ p) (m i : Nat) (hm : m < n) (hi : i < n) (h : i ≠ m) : ¬ p ∣ nth (idxL n) m - nth (idxL n) i := by
  rw [idxL_nth n m hm, idxL_nth n i hi]
  intro ⟨k, hk⟩
  have h1 : ((m : Int) - i) < p := by omega
  have h2 : -p < ((m : Int) - i) := by omega
  rw [hk] at h1 h2
  have k0 : k = 0 := by
    rcases Int.lt_trichotomy k 0 with h | h | h
    · have : p * k ≤ p * (-1) := Int.mul_le_mul_of_nonneg_left (by omega) (by omega)
      omega
    · exact h
    · have : p * 1 ≤ p * k := Int.mul_le_mul_of_nonneg_left (by omega) (by omega)
      omega
  rw [k0] at hk
  omega
/-- A claim about a layer's sum that is not so, and any three numbers that have its sum: at most two elements hide it. -/
theorem catch1 {p : Int} (hp : Pr p) (h3 : 3 ≤ p) (l : List Gt) (n : Nat) (hn : 1 ≤ n) (t z told : List Int) (k : Nat) (ht : told.length = 3) (hc : fadd p (nth told 0) (nth told 1) ≠ partS l n t z [] k % p) :
    cntN (fun r => ev (fitL p (idxL told.length) told) (r : Int) % p == partS l n t z [(r : Int)] k % p) p.toNat ≤ 2 := by
  have h1 : PolyN 3 (fun r => ev (fitL p (idxL told.length) told) r) := PolyN.mono ⟨_, rfl, fun _ => rfl⟩ (by have := fitL_length p (idxL told.length) told; rw [idxL_length] at this; omega)
  have h2 := h1.sub (partS_one l n t z k hn)
  have h4 := few_roots hp h2 (fun r => ev (fitL p (idxL told.length) told) (r : Int) % p == partS l n t z [(r : Int)] k % p) p.toNat (by omega) (fun i _ hP => eq_mod_sub (by simpa using hP))
  rcases h4 with h | h
  · omega
  · exfalso
    apply hc
    have e0 := mod_sub_eq (h 0)
    have e1 := mod_sub_eq (h 1)
    have f0 := fit_at hp (idxL told.length) told 0 (by rw [idxL_length, ht]; decide) (fun i hi hne => by rw [idxL_length] at hi; exact idx_apart _ (by omega) 0 i (by omega) hi hne)
    have f1 := fit_at hp (idxL told.length) told 1 (by rw [idxL_length, ht]; decide) (fun i hi hne => by rw [idxL_length] at hi; exact idx_apart _ (by omega) 1 i (by omega) hi hne)
    rw [idxL_nth _ _ (by omega)] at f0 f1
    have g0 : ev (fitL p (idxL told.length) told) 0 % p = nth told 0 % p := f0
    have g1 : ev (fitL p (idxL told.length) told) 1 % p = nth told 1 % p := f1
    have sn := partS_snoc l n t z [] k (by simp; omega)
    rw [List.nil_append, List.nil_append] at sn
    rw [sn]
    exact (madd (g0.symm.trans e0) (g1.symm.trans e1))
/-- Is one of the first unlike, up to a place? -/
def unlN (P : Nat → Bool) (v : Nat) : Nat → Bool
  | 0 => false
  | t + 1 => unlN P v t || (decide (t ≤ v) && !P t)
theorem unlN_true {P : Nat → Bool} {v n : Nat} (h : unlN P v n = true) : ∃ s, s < n ∧ s ≤ v ∧ P s = false := by
  induction n with
  | zero => cases h
  | succ n ih =>
    simp only [unlN, Bool.or_eq_true, Bool.and_eq_true, decide_eq_true_eq, Bool.not_eq_true'] at h
    rcases h with h | h
    · obtain ⟨s, h1, h2⟩ := ih h; exact ⟨s, by omega, h2⟩
    · exact ⟨n, by omega, h.1, h.2⟩
theorem unlN_false {P : Nat → Bool} {v n : Nat} (h : unlN P v n = false) : ∀ s, s < n → s ≤ v → P s = true := by
  induction n with
  | zero => intro s hs; omega
  | succ n ih =>
    simp only [unlN, Bool.or_eq_false_iff] at h
    intro s hs hv
    by_cases e : s = n
    · subst e
      have := h.2
      rw [decide_eq_true hv] at this
      simpa using this
    · exact ih h.1 s (by omega) hv
/-- A line that is not so: at most as many elements hide it as there are variables. -/
theorem catch2 {p : Int} (hp : Pr p) (T x y line : List Int) (v : Nat) (hx : x.length = v) (hy : y.length = v) (hl : line.length = v + 1) (P : Nat → Bool)
    (hP : ∀ s, P s = (ev (fitL p (idxL line.length) line) (s : Int) % p == ext T (onL p x y (s : Int)) % p)) :
    (unlN P v p.toNat = false → cntN P p.toNat = p.toNat) ∧ (unlN P v p.toNat = true → cntN P p.toNat ≤ v) := by
  have hp2 := hp.two
  have h1 : PolyN (v + 1) (fun t => ev (fitL p (idxL line.length) line) t) := PolyN.mono ⟨_, rfl, fun _ => rfl⟩ (by have := fitL_length p (idxL line.length) line; rw [idxL_length] at this; omega)
  have h2 := h1.sub (hx ▸ ext_line T x y (by omega))
  have hR : ∀ i : Nat, P i = true → ((ev (fitL p (idxL line.length) line) (i : Int)) - ext T (lineZ x y (i : Int))) % p = 0 := fun i h => by
    rw [hP] at h
    exact eq_mod_sub ((by simpa using h : _ = _).trans (ext_on p T x y i (by omega)))
  have hB : (∀ t, ((ev (fitL p (idxL line.length) line) t) - ext T (lineZ x y t)) % p = 0) → ∀ i : Nat, P i = true := fun h i => by
    rw [hP, beq_iff_eq, ext_on p T x y i (by omega)]
    exact mod_sub_eq (h i)
  constructor
  · intro hu
    have hall := unlN_false hu
    by_cases hv : (v : Int) < p
    · have h4 := few_roots hp h2 P (v + 1) (by omega) (fun i _ h => hR i h)
      rw [cntN_all (fun i hi => hall i (by omega) (by omega))] at h4
      rcases h4 with h4 | h4
      · omega
      · exact cntN_all fun i _ => hB h4 i
    · exact cntN_all fun i hi => hall i hi (by omega)
  · intro hu
    obtain ⟨s, s1, s2, s3⟩ := unlN_true hu
    have h4 := few_roots hp h2 P p.toNat (by omega) (fun i _ h => hR i h)
    rcases h4 with h4 | h4
    · omega
    · rw [hB h4 s] at s3; cases s3
end Go.Att
end
section
namespace Go.Att
/-- A polynomial of low degree that has the numbers at 0, 1, .. is everywhere what is fitted through them. -/
theorem fit_one {p : Int} (hp : Pr p) {l : List Int} {f : Int → Int} (hn : (l.length : Int) ≤ p) (hf : PolyN l.length f) (h : ∀ i : Nat, i < l.length → f i % p = nth l i % p) (t : Int) : ev (fitL p (idxL l.length) l) t % p = f t % p := by
  have hq : PolyN l.length fun x => ev (fitL p (idxL l.length) l) x :=
    PolyN.mono ⟨_, rfl, fun _ => rfl⟩ (by have := fitL_length p (idxL l.length) l; rw [idxL_length] at this; exact this)
  have h2 := PolyN.sub hq hf
  have h4 := few_roots hp h2 (fun _ => true) l.length hn (fun i hi _ => eq_mod_sub (by
    have f0 := fit_at hp (idxL l.length) l i (by rw [idxL_length]; exact hi) (fun k hk hne => by rw [idxL_length] at hk; exact idx_apart _ hn i k hi hk hne)
    rw [idxL_nth _ _ hi] at f0
    rw [f0]; exact (h i hi).symm))
  rcases h4 with h4 | h4
  · rw [cntN_all (fun _ _ => rfl)] at h4; omega
  · exact mod_sub_eq (h4 t)
/-- Any list that is short enough and has the numbers is as good. -/
theorem fit_like {p : Int} (hp : Pr p) {l g : List Int} (hn : (l.length : Int) ≤ p) (hg : g.length ≤ l.length) (h : ∀ i : Nat, i < l.length → ev g i % p = nth l i % p) (t : Int) : ev g t % p = ev (fitL p (idxL l.length) l) t % p :=
  (fit_one hp hn (PolyN.mono ⟨g, rfl, fun _ => rfl⟩ hg) h t).symm
end Go.Att
end
section
namespace Go.Att
open Go.RowKit
def Mx (w : World) (b : Nat) (M : Nat → Nat → Int) : Prop := ∀ r j, r < 8 → j < 8 → w.cell? ⟨b, r * 8 + j, none⟩ = some (.int .i64 (M r j)) ∧ w.frozen? ⟨b, r * 8 + j, none⟩ = false
def upm (M : Nat → Nat → Int) (r j : Nat) (x : Int) : Nat → Nat → Int := fun r' j' => if r' = r ∧ j' = j then x else M r' j'
theorem Mx.ext {w w' : World} {b : Nat} {M : Nat → Nat → Int} (h : Mx w b M) (hx : Ext w w') : Mx w' b M := fun r j hr hj =>
  ⟨hx.cell (h r j hr hj).1, by rw [World.frozen?_of_block (hx.below.block b (World.block_lt_of_cell? w ⟨b, r * 8 + j, none⟩ (h r j hr hj).1))]; exact (h r j hr hj).2⟩
theorem Mx.set {w : World} {b : Nat} {M : Nat → Nat → Int} (h : Mx w b M) {r j : Nat} (hr : r < 8) (hj : j < 8) (x : Int) : Mx (w.setCell ⟨b, r * 8 + j, none⟩ (.int .i64 x)) b (upm M r j x) := fun r' j' hr' hj' => by
  refine ⟨?_, by rw [World.frozen?_setCell]; exact (h r' j' hr' hj').2⟩
  unfold upm
  by_cases e : r' = r ∧ j' = j
  · obtain ⟨rfl, rfl⟩ := e
    rw [if_pos ⟨rfl, rfl⟩]; exact World.cell?_setCell_same _ _ _ (h _ _ hr hj).1
  · rw [if_neg e, World.cell?_setCell_other _ _ _ _ (by first | (simp; omega) | simp)]; exact (h _ _ hr' hj').1
theorem Mx.other {w : World} {b b' k : Nat} {M : Nat → Nat → Int} (h : Mx w b M) (hb : b ≠ b') (v : Value) : Mx (w.setCell ⟨b', k, none⟩ v) b M := fun r j hr hj =>
  ⟨by rw [World.cell?_setCell_other _ _ _ _ (by simp)]; exact (h r j hr hj).1, by rw [World.frozen?_setCell]; exact (h r j hr hj).2⟩
theorem Mx.size {w : World} {b : Nat} {M : Nat → Nat → Int} (h : Mx w b M) : b < w.heap.size := World.block_lt_of_cell? w ⟨b, 0 * 8 + 0, none⟩ (h 0 0 (by decide) (by decide)).1
theorem Mx.congr {w : World} {b : Nat} {M M' : Nat → Nat → Int} (h : Mx w b M) (he : ∀ r j, r < 8 → j < 8 → M r j = M' r j) : Mx w b M' := fun r j hr hj => by rw [← he r j hr hj]; exact h r j hr hj
end Go.Att
end
