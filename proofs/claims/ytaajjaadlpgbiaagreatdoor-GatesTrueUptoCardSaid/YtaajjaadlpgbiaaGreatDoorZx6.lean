/- The making of a field: contract. The matrix of inverses 1 / (i + j + 8) can be undone: no pivot is 0. Plain laws. No program in sight. The greatest common divisor; what undoes a power: contracts. -/
import Derived.Test.YtaajjaadlpgbiaaGreatDoorFb
import Derived.Test.YtaajjaadlpgbiaaGreatDoorEr
import Derived.Test.YtaajjaadlpgbiaaGreatDoorVc
import Derived.Test.YtaajjaadlpgbiaaGreatDoorLa
section
/-! The making of a field: contract. -/
namespace Go.Att
open Go.RowKit
/-- A field with its least generator. -/
structure FieldOf (w : World) (f : Value) (p g : Int) : Prop where
  fld : ∃ fs, Fld w f p g fs
  gen : IsGen p g
  least : ∀ x : Int, 1 ≤ x → x < g → ¬ IsGen p x
  lo : 1 ≤ g
  hi : g < p
theorem FieldOf.ext {w w' : World} {f : Value} {p g : Int} (h : FieldOf w f p g) (hx : Ext w w') : FieldOf w' f p g := by
  obtain ⟨⟨fs, h1⟩, h2, h3, h4, h5⟩ := h
  exact ⟨⟨fs, h1.ext hx⟩, h2, h3, h4, h5⟩
theorem FieldOf.ptr {w : World} {f : Value} {p g : Int} (h : FieldOf w f p g) : ∃ b, f = .pointer (some ⟨b, 0, none⟩) := by
  obtain ⟨fs, hf⟩ := h.fld
  obtain ⟨⟨b, v, h1, _⟩, _⟩ := hf
  exact ⟨b, h1⟩
/-- Witnesses against all primes that divide: a generator; and none but such has them. -/
theorem isGen_iff {p a : Int} {fs : List Int} (hp : Pr p) (hp3 : 3 ≤ p) (hfs : PrimesOf (p - 1).toNat fs) :
    (¬ p ∣ a ∧ ∀ j, j < fs.length → Wit p a (nth fs j)) ↔ IsGen p a := by
  constructor
  · rintro ⟨h0, h1⟩
    refine isGen_of_primes hp hp3 h0 fun q hq hqn => ?_
    have hm := hfs.2 q hq hqn
    obtain ⟨j, hj, e⟩ := List.getElem_of_mem hm
    have := h1 j hj
    unfold Wit at this
    rw [nth_eq hj, e, Int.toNat_natCast] at this
    exact this
  · intro h
    refine ⟨h.1, fun j hj => ?_⟩
    obtain ⟨h2, h3⟩ := hfs.1 _ (nth_mem hj)
    obtain ⟨D, hD⟩ := Int.eq_ofNat_of_zero_le (show 0 ≤ nth fs j by omega)
    unfold Wit
    rw [hD] at h2 h3 ⊢
    rw [Int.toNat_natCast]
    have hd := Int.natCast_dvd_natCast.1 h3
    have hpos : 0 < (p - 1).toNat := by omega
    exact h.2 _ (Nat.div_pos (Nat.le_of_dvd hpos hd) (by omega)) (Nat.div_lt_self hpos (by omega))
/-- What stands in the third cell of a block. -/
def genAt (w : World) (b : Nat) : Int := match w.cell? ⟨b, 2, none⟩ with | some v => intOf v | none => 0
theorem genAt_eq {w : World} {b : Nat} {x : Int} (h : w.cell? ⟨b, 2, none⟩ = some (.int .i64 x)) : genAt w b = x := by simp [genAt, h, intOf]
end Go.Att
namespace Go.Proofs.YtaajjaadlpgbiaaGreatDoor
open Go.RowKit Go.Att

theorem gen_step {wr w1 : World} {G p : Int} {v : Value} {b m : Nat} (hb : w1.heap.size ≤ b) (c0 : wr.cell? ⟨b, 0, none⟩ = some (.int .i64 p)) (c1 : wr.cell? ⟨b, 1, none⟩ = some v) (c2 : wr.cell? ⟨b, 2, none⟩ = some (.int .i64 G)) (c3 : wr.frozen? ⟨b, 2, none⟩ = false) (hx : Ext w1 wr) :
    ((wr.drewN m).setCell ⟨b, 2, none⟩ (.int .i64 (G + 1))).cell? ⟨b, 0, none⟩ = some (.int .i64 p) ∧ ((wr.drewN m).setCell ⟨b, 2, none⟩ (.int .i64 (G + 1))).cell? ⟨b, 1, none⟩ = some v ∧
    ((wr.drewN m).setCell ⟨b, 2, none⟩ (.int .i64 (G + 1))).cell? ⟨b, 2, none⟩ = some (.int .i64 (G + 1)) ∧ ((wr.drewN m).setCell ⟨b, 2, none⟩ (.int .i64 (G + 1))).frozen? ⟨b, 2, none⟩ = false ∧ Ext w1 ((wr.drewN m).setCell ⟨b, 2, none⟩ (.int .i64 (G + 1))) := by
  refine ⟨?_, ?_, World.cell?_setCell_same _ _ _ c2, ?_, (hx.trans (Ext.drewN _ _)).below.setCell hb _⟩
  · rw [World.cell?_setCell_other _ _ _ _ (by simp)]; exact c0
  · rw [World.cell?_setCell_other _ _ _ _ (by simp)]; exact c1
  · rw [World.frozen?_setCell]; exact c3

theorem new_bad (p : Int) (w : World) (h : ¬ okP p) :
    Calls Tryz.prog 88 #[.int .i64 p] w fun e w' => e = .returned (.tuple #[.pointer none, errv 1]) ∧ w = w' := by
  rw [errv_pos (by decide)]
  by_cases h3 : p < 3
  · clear h
    go_enter Tryz.func88, Tryz.ntmps88
    go_wp2_with fail
    go_ret2; exact ⟨rfl, rfl⟩
  · by_cases h4 : 2147483647 < p
    · clear h
      go_enter Tryz.func88, Tryz.ntmps88
      go_wp2_with fail
      go_ret2; exact ⟨rfl, rfl⟩
    · have hb := okB_false h
      clear h
      go_enter Tryz.func88, Tryz.ntmps88
      go_wp2_with (go_at_call 131; refine (prime_any _ _ (by omega) (by omega)).mono ?_; rintro e w' ⟨rfl, rfl⟩)
      go_ret2; exact ⟨rfl, rfl⟩

set_option maxHeartbeats 2000000 in
theorem new_ok (p : Int) (w : World) (h : okP p) :
    Calls Tryz.prog 88 #[.int .i64 p] w (Gives w fun v w' => ∃ f g, v = .tuple #[f, .nilIface] ∧ FieldOf w' f p g) := by
  have hb := okB_true h
  obtain ⟨hp, lo, hi⟩ := h
  obtain ⟨g0, hg1, hg2, hg3⟩ := exists_gen hp lo
  have HP := Lib.hid hp; clear hp
  have HG := Lib.hid hg3; clear hg3
  have eQ : p - 1 = ((p - 1).toNat : Int) := by omega
  have EQ := Lib.hid eQ; clear eQ
  go_enter Tryz.func88, Tryz.ntmps88
  go_wp2_with (first | (go_at_call 131; refine (prime_any _ _ (by omega) (by omega)).mono ?_; rintro e w' ⟨rfl, rfl⟩) | (go_at_call 132; rw [EQ.out]; refine (primes_any _ _ (by omega) (by omega)).mono ?_; rintro e w1 ⟨v, rfl, hx, fs, hv, hfs⟩; obtain ⟨ao, cap, rfl⟩ := hv.shape))
  have HFS := Lib.hid hfs; clear hfs
  have HV := Lib.hid hv; clear hv
  have HX := Lib.hid hx; clear hx
  go_loopw [26] (fun _ wr => ∃ G : Int, wr.cell? ⟨w1.heap.size, 0, none⟩ = some (.int .i64 p) ∧ wr.cell? ⟨w1.heap.size, 1, none⟩ = some (.slice ao fs.length cap) ∧ wr.cell? ⟨w1.heap.size, 2, none⟩ = some (.int .i64 G) ∧ wr.frozen? ⟨w1.heap.size, 2, none⟩ = false ∧ Ext w1 wr ∧ 1 ≤ G ∧ G ≤ g0 ∧ Hid (∀ x : Int, 1 ≤ x → x < G → ¬ IsGen p x)) (fun _ wr => (p - genAt wr w1.heap.size).toNat)
  case atStart => exact ⟨1, by simp, by simp, by simp, by simp, Ext.alloc _ _, by omega, hg1, Lib.hid (fun x h1 h2 => by omega)⟩
  case round =>
    obtain ⟨G, c0, c1, c2, c3, hxr, hG1, hG2, HL⟩ := hrel
    have HF := Lib.hid (show Fld wr (.pointer (some ⟨w1.heap.size, 0, none⟩)) p G fs from ⟨⟨_, _, rfl, c0, c1, HV.out.ext hxr, c2⟩, HP.out, lo, hi⟩)
    have HM := Lib.hid (genAt_eq c2)
    by_cases hgen : IsGen p G
    · have HI := Lib.hid hgen; clear hgen
      go_wp2_with (go_at_call 133; refine (order_any HF.out _ HFS.out.1).mono ?_; rintro e w2 ⟨r, hr, rfl, m, rfl⟩; have hr2 : (r != p - 1) = false := (by rw [bne_eq_false_iff_eq]; exact hr.2 ((isGen_iff HP.out lo HFS.out).2 HI.out)); clear hr)
      go_ret2
      exact .mk _ rfl ((HX.out.trans hxr).trans (Ext.drewN _ _)) ⟨_, G, rfl, ⟨⟨fs, HF.out.drewN _⟩, HI.out, HL.out, hG1, by omega⟩⟩
    · have hGlt : G < g0 := by
        rcases Int.lt_or_eq_of_le hG2 with h | rfl
        · exact h
        · exact absurd HG.out hgen
      have HI := Lib.hid hgen; clear hgen
      go_wp2_with (go_at_call 133; refine (order_any HF.out _ HFS.out.1).mono ?_; rintro e w2 ⟨r, hr, rfl, m, rfl⟩; have hr2 : (r != p - 1) = true := (by rw [bne_iff_ne]; exact fun h => HI.out ((isGen_iff HP.out lo HFS.out).1 (hr.1 h))); clear hr)
      go_roundw
      case rel =>
        obtain ⟨d0, d1, d2, d3, dx⟩ := gen_step (m := m) (Nat.le_refl _) c0 c1 c2 c3 hxr
        exact ⟨G + 1, d0, d1, d2, d3, dx, by omega, by omega, Lib.hid (fun x h1 h2 => by
          rcases Int.lt_or_eq_of_le (show x ≤ G by omega) with h | rfl
          · exact HL.out x h1 h
          · exact HI.out)⟩
      case measure =>
        have e := genAt_eq (gen_step (m := m) (Nat.le_refl _) c0 c1 c2 c3 hxr).2.2.1
        rw [e, HM.out]; omega
end Go.Proofs.YtaajjaadlpgbiaaGreatDoor
/-! A field on both sides: contract. -/
namespace Go.Proofs.YtaajjaadlpgbiaaGreatDoor
open Go.RowKit Go.Att

set_option maxHeartbeats 1000000 in
theorem sfield_bad (p : Int) (w : World) (h : ¬ okP p) (hg : Hnd w) :
    Calls Tryz.prog 45 #[.int .i64 p] w (Gives w fun v _ => v = .tuple #[.pointer none, .bool true]) := by
  have HB := Lib.hid (okB_false h); have H := Lib.hid h; clear h
  have HG := Lib.hid hg; clear hg
  go_enter Tryz.func45, Tryz.ntmps45
  go_wp2_with (first | (go_at_call 88; refine (new_bad _ _ H.out).mono ?_; rintro e w' ⟨rfl, rfl⟩) | (go_at_call 89; refine (rprime_any _ _).mono ?_; rintro e w' ⟨rfl, rfl⟩; rw [HB.out]) | (go_at_call 9; refine (error_any 1 1 _ HG.out).mono ?_; rintro e w' ⟨rfl, hx⟩))
  go_ret2
  exact .mk _ rfl hx rfl

set_option maxHeartbeats 1000000 in
theorem sfield_ok (p : Int) (w : World) (h : okP p) (hg : Hnd w) :
    Calls Tryz.prog 45 #[.int .i64 p] w (Gives w fun v w' => ∃ f g, v = .tuple #[f, .bool true] ∧ FieldOf w' f p g) := by
  have HB := Lib.hid (okB_true h); have H := Lib.hid h; clear h
  have HG := Lib.hid hg; clear hg
  go_enter Tryz.func45, Tryz.ntmps45
  go_wp2_with (first | (go_at_call 88; refine (new_ok _ _ H.out).mono ?_; rintro e w1 ⟨v, rfl, hx, f, g, rfl, hf⟩; obtain ⟨b, rfl⟩ := hf.ptr) | (go_at_call 89; refine (rprime_any _ _).mono ?_; rintro e w' ⟨rfl, rfl⟩; rw [HB.out]) | (go_at_call 9; refine (error_any 0 0 _ (HG.out.ext hx)).mono ?_; rintro e w2 ⟨rfl, hx2⟩))
  go_ret2
  exact .mk _ rfl (hx.trans hx2) ⟨_, g, rfl, hf.ext hx2⟩
end Go.Proofs.YtaajjaadlpgbiaaGreatDoor
/-! Lists as elements; whether all of a list are unlike: contracts of the document's side. -/
namespace Go.Att
/-- All unlike, as elements. -/
def Unl (p : Int) (l : List Int) : Prop := (l.map (fof p)).Nodup
noncomputable def unlB (p : Int) (l : List Int) : Bool := @decide (Unl p l) (Classical.propDecidable _)
theorem unlB_true {p : Int} {l : List Int} (h : Unl p l) : unlB p l = true := @decide_eq_true _ (Classical.propDecidable _) h
theorem unlB_false {p : Int} {l : List Int} (h : ¬ Unl p l) : unlB p l = false := @decide_eq_false _ (Classical.propDecidable _) h
theorem unlB_iff {p : Int} {l : List Int} : unlB p l = true ↔ Unl p l := ⟨fun h => @of_decide_eq_true _ (Classical.propDecidable _) h, unlB_true⟩
theorem nodup_of_nth {l : List Int} (h : ∀ i, i < l.length → ∀ k, k < i → nth l i ≠ nth l k) : l.Nodup := by
  rw [List.Nodup, List.pairwise_iff_getElem]
  intro i j hi hj hij e
  exact h j hj i hij (by rw [nth_eq hj, nth_eq hi, e])
theorem not_nodup_of_nth {l : List Int} {i k : Nat} (hi : i < l.length) (hk : k < i) (e : nth l i = nth l k) : ¬ l.Nodup := by
  intro h
  rw [List.Nodup, List.pairwise_iff_getElem] at h
  exact h k i (by omega) hi hk (by rw [← nth_eq hi, ← nth_eq (show k < l.length by omega), e])
theorem take_snoc_map {l : List Int} {i : Nat} (g : Int → Int) (h : i < l.length) : (l.take (i + 1)).map g = (l.take i).map g ++ [g (nth l i)] := by
  rw [List.take_succ_eq_append_getElem h, List.map_append, nth_eq h]; rfl
end Go.Att
namespace Go.Proofs.YtaajjaadlpgbiaaGreatDoor
open Go.RowKit Go.Att

set_option maxHeartbeats 1000000 in
theorem rall_any (p : Int) (v : Value) (l : List Int) (w : World) (hv : Ints w v l) (hp : 2 ≤ p) (hp2 : p ≤ 2147483647) (hs : l.length ≤ 4294967295) :
    Calls Tryz.prog 156 #[.int .i64 p, v] w (Gives w fun v' w' => Ints w' v' (l.map (fof p)) ∧ NewIn w v' ∧ OldIn w' v') := by
  have hl := hv.run_len (P := Tryz.prog) slInts
  have HV := Lib.hid hv; clear hv
  go_enter Tryz.func156, Tryz.ntmps156
  go_wp2
  go_loopw [5, 6] (fun x5 x6 wr => ∃ i : Nat, x6 = .int .i64 i ∧ i ≤ l.length ∧ wr.ownsRow w.heap.size 3 1 x5 i (((l.take i).map (fof p)).map (Value.int .i64)) ∧ Ext w wr) (fun _ x6 _ => l.length - (intOf x6).toNat)
  case atStart => exact ⟨0, rfl, Nat.zero_le _, World.ownsRow_nil _ _ _ _, Ext.refl _⟩
  case round =>
    obtain ⟨i, rfl, hi1, HO, HX⟩ := hrel
    by_cases hlt : i < l.length
    · have hix := HV.out.run_index (P := Tryz.prog) slInts i hlt
      have hcell := (HV.out.ext HX).cell i hlt
      go_wp2_with (first | (go_at_call 36; refine (rof_any _ _ _ hp hp2).mono ?_; rintro e w' ⟨rfl, rfl⟩) | (at_builtin; refine wpList_app1 rfl _ _ 23 rfl slInts rfl HX HO rfl _ rfl rfl (by omega) (by omega) ?_; intro v' w1 HO' HX' _))
      go_roundw
      case rel => exact ⟨i + 1, by go_num, by omega, by rw [take_snoc_map _ hlt]; simpa using HO', HX'⟩
      case measure => simp [intOf]; omega
    · obtain rfl : i = l.length := by omega
      go_wp2_with fail
      go_ret
      exact .mk _ rfl HX ⟨Ints.of_own (by rw [List.take_length] at HO; exact HO), NewIn.of_own HO, OldIn.of_own HO⟩

end Go.Proofs.YtaajjaadlpgbiaaGreatDoor
end
section
namespace Go.Att
/-- The products of x - l, of x + l + 8. -/
def cA (x : Int) : Nat → Int
  | 0 => 1
  | i + 1 => cA x i * (x - i)
def cB (x : Int) : Nat → Int
  | 0 => 1
  | i + 1 => cB x i * (x + i + 8)
theorem pr_mul {p : Int} (hp : Pr p) {a b : Int} (ha : ¬ p ∣ a) (hb : ¬ p ∣ b) : ¬ p ∣ a * b := fun h => (hp.euclid h).elim ha hb
theorem pr_small {p a : Int} (h1 : 0 < a) (h2 : a < p) : ¬ p ∣ a := fun h => by have := Int.le_of_dvd h1 h; omega
theorem cA_unit {p : Int} (hp : Pr p) (h23 : 23 ≤ p) (x i : Nat) (hx : x < 8) (hi : i ≤ x) : ¬ p ∣ cA x i := by
  induction i with
  | zero => exact (pr_small (by decide) (by omega) : ¬ p ∣ (1 : Int))
  | succ i ih => exact pr_mul hp (ih (by omega)) (pr_small (by omega) (by omega))
theorem cB_unit {p : Int} (hp : Pr p) (h23 : 23 ≤ p) (x i : Nat) (hx : x < 8) (hi : i ≤ 8) : ¬ p ∣ cB x i := by
  induction i with
  | zero => exact (pr_small (by decide) (by omega) : ¬ p ∣ (1 : Int))
  | succ i ih => exact pr_mul hp (ih (by omega)) (pr_small (by omega) (by omega))
/-- What is left of the matrix behind i steps. -/
def Left (p : Int) (i : Nat) (m : Nat → Nat → Int) : Prop :=
  ∀ r j : Nat, i ≤ r → r < 8 → i ≤ j → j < 8 → (m r j * (((r : Int) + j + 8) * (cB r i * cB j i))) % p = (cA r i * cA j i) % p
theorem left_start {p : Int} (hp : Pr p) (h23 : 23 ≤ p) (m : Nat → Nat → Int) (h : ∀ r j : Nat, r < 8 → j < 8 → m r j = finv p ((r : Int) + j + 8)) : Left p 0 m := by
  intro r j _ hr _ hj
  rw [h r j hr hj]
  simp only [cA, cB, Int.mul_one]
  rw [finv_mul hp (pr_small (by omega) (by omega)), one_mod hp.two]
theorem left_pivot {p : Int} (hp : Pr p) (h23 : 23 ≤ p) {m : Nat → Nat → Int} {i : Nat} (hi : i < 8) (h : Left p i m) : ¬ p ∣ m i i := by
  intro hd
  have h1 := h i i (Nat.le_refl _) hi (Nat.le_refl _) hi
  have h2 : p ∣ m i i * (((i : Int) + i + 8) * (cB i i * cB i i)) := Int.dvd_mul_of_dvd_left hd
  rw [Int.emod_eq_zero_of_dvd h2] at h1
  have h3 : p ∣ cA i i * cA i i := Int.dvd_of_emod_eq_zero h1.symm
  exact pr_mul hp (cA_unit hp h23 i i hi (Nat.le_refl _)) (cA_unit hp h23 i i hi (Nat.le_refl _)) h3
theorem mod_cancel {p : Int} (hp : Pr p) {a b c : Int} (hc : ¬ p ∣ c) (h : (a * c) % p = (b * c) % p) : a % p = b % p := by
  have h1 := dvd_sub_of_mod_eq h
  rw [← Int.sub_mul] at h1
  exact mod_eq_of_dvd_sub ((hp.euclid h1).resolve_right hc)
/-- A step: the row of the pivot is made 1 there, and goes from the others. -/
theorem left_step {p : Int} (hp : Pr p) (h23 : 23 ≤ p) {m m' : Nat → Nat → Int} {i : Nat} (hi : i < 8) (h : Left p i m) (by_ : Int) (hby : (by_ * m i i) % p = 1 % p)
    (hm : ∀ r j : Nat, i < r → r < 8 → i < j → j < 8 → m' r j % p = (m r j - m r i * (m i j * by_)) % p) : Left p (i + 1) m' := by
  intro r j hr hr8 hj hj8
  have ha := h r j (by omega) hr8 (by omega) hj8
  have hb := h r i (by omega) hr8 (Nat.le_refl _) hi
  have hc := h i j (Nat.le_refl _) hi (by omega) hj8
  have hP := h i i (Nat.le_refl _) hi (Nat.le_refl _) hi
  have hu := cB_unit hp h23 i i hi (by omega)
  have hm' := hm r j (by omega) hr8 (by omega) hj8
  generalize m r j = a at *
  generalize m r i = b at *
  generalize m i j = c at *
  generalize m i i = P at *
  simp only [cA, cB]
  generalize cB (r : Int) i = Br at *
  generalize cB (j : Int) i = Bj at *
  generalize cB (i : Int) i = Bi at *
  generalize cA (r : Int) i = Ar at *
  generalize cA (j : Int) i = Aj at *
  generalize cA (i : Int) i = Ai at *
  generalize (r : Int) = r at *
  generalize (j : Int) = j at *
  generalize (i : Int) = i at *
  -- the pivot's part
  have e1 : (b * (c * by_) * ((r + j + 8) * ((Br * (r + i + 8)) * (Bj * (j + i + 8))))) % p = (Ar * Aj * ((i + i + 8) * (r + j + 8))) % p := by
    refine mod_cancel hp (pr_mul hp hu hu) ?_
    have s1 : b * (c * by_) * ((r + j + 8) * ((Br * (r + i + 8)) * (Bj * (j + i + 8)))) * (Bi * Bi) = (b * ((r + i + 8) * (Br * Bi))) * ((c * ((i + j + 8) * (Bi * Bj))) * (by_ * (r + j + 8))) := by grind
    have s2 : (Ar * Ai) * ((Ai * Aj) * (by_ * (r + j + 8))) = (Ai * Ai) * (Ar * Aj * (by_ * (r + j + 8))) := by grind
    have s3 : (P * ((i + i + 8) * (Bi * Bi))) * (Ar * Aj * (by_ * (r + j + 8))) = (by_ * P) * (Ar * Aj * ((i + i + 8) * (r + j + 8)) * (Bi * Bi)) := by grind
    rw [s1, mmul hb (mmul hc rfl), s2, ← mmul hP rfl, s3, mmul hby rfl, Int.one_mul]
  have e2 : (a * ((r + j + 8) * ((Br * (r + i + 8)) * (Bj * (j + i + 8))))) % p = (Ar * Aj * ((r + i + 8) * (j + i + 8))) % p := by
    have s1 : a * ((r + j + 8) * ((Br * (r + i + 8)) * (Bj * (j + i + 8)))) = (a * ((r + j + 8) * (Br * Bj))) * ((r + i + 8) * (j + i + 8)) := by grind
    rw [s1, mmul ha rfl]
  rw [mmul hm' rfl, Int.sub_mul, Int.sub_emod, e1, e2, ← Int.sub_emod]
  congr 1
  grind
end Go.Att
end
section
namespace Go.Att
open Go.RowKit
theorem drewN2 (w : World) (a b : Nat) : (w.drewN a).drewN b = w.drewN (a + b) := by simp [World.drewN, Nat.add_assoc]
theorem quo_back (r s : Nat) : (r : Int) / s * s = ((r - r % s : Nat) : Int) := by
  have h1 := Nat.mod_add_div r s
  have h2 := Nat.mod_le r s
  have h3 : r / s * s = r - r % s := by rw [Nat.mul_comm]; omega
  rw [← h3]; simp
theorem w64_in (n : Int) (h : -9223372036854775808 ≤ n ∧ n ≤ 9223372036854775807) : wrap64 n = n := by unfold wrap64; omega
theorem inv_step (r s : Nat) (hr : r ≤ 2147483647) : wrap64 ((r : Int) - wrap64 (wrap64 ((r : Int) / s) * s)) = ((r % s : Nat) : Int) := by
  have hq := quo_back r s
  have hle := Nat.mod_le r s
  have h1 : (r : Int) / s = ((r / s : Nat) : Int) := by simp
  have h2 := Nat.div_le_self r s
  rw [h1] at hq ⊢
  generalize r / s = q at *
  generalize r % s = m at *
  rw [w64_in (q : Int) (by omega), hq, w64_in ((r - m : Nat) : Int) (by omega), w64_in ((r : Int) - (r - m : Nat)) (by omega)]
  omega
end Go.Att
namespace Go.Proofs.YtaajjaadlpgbiaaGreatDoor
open Go.RowKit Go.Att

set_option maxHeartbeats 1000000 in
theorem gcd_any (a b : Nat) (w : World) (ha : a ≤ 4611686018427387904) (hb : b ≤ 4611686018427387904) : Calls Tryz.prog 90 #[.int .i64 a, .int .i64 b] w fun e w' => e = .returned (.int .i64 (Nat.gcd a b : Nat)) ∧ ∃ m, w' = w.drewN m := by
  go_enter Tryz.func90, Tryz.ntmps90
  go_wp2
  go_loopw [0, 1] (fun x0 x1 wr => ∃ (x y m : Nat), x0 = .int .i64 x ∧ x1 = .int .i64 y ∧ x ≤ 4611686018427387904 ∧ y ≤ 4611686018427387904 ∧ Hid (Nat.gcd x y = Nat.gcd a b) ∧ wr = w.drewN m) (fun _ x1 _ => (intOf x1).toNat)
  case atStart => exact ⟨a, b, 0, rfl, rfl, ha, hb, Lib.hid rfl, rfl⟩
  case round =>
    obtain ⟨x, y, m, rfl, rfl, hx, hy, HG, rfl⟩ := hrel
    by_cases hy0 : 0 < y
    · have HS := Lib.hid (show Nat.gcd y (x % y) = Nat.gcd a b by rw [← HG.out, Nat.gcd_comm x y, Nat.gcd_rec y x, Nat.gcd_comm])
      have hlt := Nat.mod_lt x hy0
      have hc : ((x : Int) % (y : Int)) = ((x % y : Nat) : Int) := by simp
      have hy1 : (0 : Int) < y := by omega
      go_wp2_with fail
      go_quiet (fail)
      go_wp2_with fail
      go_roundw
      case rel => exact ⟨y, x % y, m + nq, rfl, by rw [← hc], hy, by omega, HS, drewN2 _ _ _⟩
      case measure => simp [intOf]; omega
    · obtain rfl : y = 0 := by omega
      have HF := Lib.hid (show x = Nat.gcd a b by rw [← HG.out, Nat.gcd_zero_right])
      go_wp2
      go_ret
      exact ⟨ret_int (by rw [← HF.out]), _, rfl⟩

set_option maxHeartbeats 1000000 in
theorem inverse_any (a n : Nat) (w : World) (hn : 0 < n) (ha : a ≤ 2147483647) (hb : n ≤ 2147483647) : Calls Tryz.prog 91 #[.int .i64 a, .int .i64 n] w fun e w' => (∃ r : Int, e = .returned (.int .i64 r)) ∧ ∃ m, w' = w.drewN m := by
  go_enter Tryz.func91, Tryz.ntmps91
  go_wp2
  go_loopw [5, 6, 7, 8, 9] (fun x5 x6 x7 x8 _ wr => ∃ (x y : Int) (r s m : Nat), x5 = .int .i64 x ∧ x6 = .int .i64 y ∧ x7 = .int .i64 r ∧ x8 = .int .i64 s ∧ r ≤ 2147483647 ∧ s ≤ 2147483647 ∧ wr = w.drewN m) (fun _ _ _ x8 _ _ => (intOf x8).toNat)
  case atStart => exact ⟨1, 0, a, n, 0, rfl, rfl, rfl, rfl, ha, hb, rfl⟩
  case round =>
    obtain ⟨x, y, r, s, m, rfl, rfl, rfl, rfl, hr, hs, rfl⟩ := hrel
    by_cases hs0 : 0 < s
    · have hlt := Nat.mod_lt r hs0
      have HQ := Lib.hid (inv_step r s hr)
      clear hlt
      go_wp2_with fail
      go_roundw
      case rel => exact ⟨y, _, s, r % s, m, rfl, rfl, rfl, congrArg (Value.int .i64) HQ.out, hs, Nat.le_trans (Nat.mod_le r s) hr, rfl⟩
      case measure =>
        rw [HQ.out]
        show ((r % s : Nat) : Int).toNat < (s : Int).toNat
        rw [Int.toNat_natCast, Int.toNat_natCast]
        exact Nat.mod_lt r hs0
    · obtain rfl : s = 0 := by omega
      go_wp2_with fail
      go_ret
      exact ⟨⟨_, rfl⟩, _, rfl⟩
end Go.Proofs.YtaajjaadlpgbiaaGreatDoor
end
