/- RulesSame: PRODUCTS TELL PAIRS APART: the law's walk: for every input it returns true and leaves all that was there as it was. -/
import Derived.Test.YthjemncbphdomaaDoorG2
import Derived.Test.YthjemncbphdomaaDoorG5
import Derived.Test.YthjemncbphdomaaDoorG6
import Derived.Test.YthjemncbphdomaaDoorF8
import Derived.Deep.RegionWith
namespace Go.Att
def nums (p y : Int) (l : List (Int × Int)) : List (Int × Int) := l.map fun c => (numb p y c, 0)
theorem nums_length (p y : Int) (l : List (Int × Int)) : (nums p y l).length = l.length := by simp [nums]
theorem nums_step (p y : Int) {l : List (Int × Int)} {i : Nat} (h : i < l.length) : nums p y (l.take (i + 1)) = nums p y (l.take i) ++ [(numb p y (nthP l i), 0)] := by
  rw [List.take_succ_eq_append_getElem h, ← nthP_eq h]; simp [nums]
/-- Are the two products the same at x? -/
def sameB (p y : Int) (a b : List (Int × Int)) (x : Int) : Bool := fprod p y x a == fprod p y x b
theorem fprod_nums (p y x : Int) (l : List (Int × Int)) : fprod p y x l = prodAt (l.map (numb p y)) x % p := by
  unfold fprod prodAt; rw [List.map_map]; rfl
theorem sameB_of_perm {p y : Int} {a b : List (Int × Int)} (h : permB (nums p y a) (nums p y b) = true) (x : Int) : sameB p y a b x = true := by
  have hp : (nums p y a).Perm (nums p y b) := @of_decide_eq_true _ (Classical.propDecidable _) h
  have h2 := hp.map Prod.fst
  simp only [nums, List.map_map] at h2
  unfold sameB
  have e : (Prod.fst ∘ fun c => (numb p y c, (0 : Int))) = numb p y := rfl
  rw [e] at h2
  rw [beq_iff_eq, fprod_nums, fprod_nums, prodAt_perm h2]
theorem not_all_same {p y : Int} (hp : Pr p) {a b : List (Int × Int)} {xs : List Int} (h : permB (nums p y a) (nums p y b) = false) (hl : a.length = b.length) (hn : a.length ≤ xs.length) (hu : Unl p xs) : xs.all (sameB p y a b) = false := by
  have hnp : ¬ (nums p y a).Perm (nums p y b) := @of_decide_eq_false _ (Classical.propDecidable _) h
  rw [Bool.eq_false_iff]
  intro hall
  rw [List.all_eq_true] at hall
  apply hnp
  have hd : xs.Pairwise fun a b => ¬ p ∣ a - b := by
    unfold Unl List.Nodup at hu
    rw [List.pairwise_map] at hu
    exact hu.imp fun hne hd => hne (mod_eq_of_dvd_sub hd)
  have key := same_of_products hp (a.map (numb p y)) (b.map (numb p y)) xs (by simp [hl]) hd (by simpa using hn) (fun x hx => by
    have := hall x hx
    unfold sameB at this
    rw [beq_iff_eq, fprod_nums, fprod_nums] at this
    exact dvd_sub_of_mod_eq this)
  rw [List.map_map, List.map_map] at key
  have e : ((· % p) ∘ numb p y) = numb p y := by funext c; simp [numb]
  rw [e] at key
  have := key.map fun n => (n, (0 : Int))
  rw [List.map_map, List.map_map] at this
  exact this
theorem all_take_step {xs : List Int} {i : Nat} (h : i < xs.length) (g : Int → Bool) : (xs.take (i + 1)).all g = ((xs.take i).all g && g (nth xs i)) := by
  rw [List.take_succ_eq_append_getElem h, ← nth_eq h]; simp
end Go.Att
namespace Go.Proofs.YthjemncbphdomaaDoor
open Go.RowKit Go.Att

set_option maxRecDepth 100000 in
set_option maxHeartbeats 4000000 in
theorem rulesSame_bad (p : Int) (va vb vx : Value) (y : Int) (w : World) (h : ¬ okP p) (hg : Hnd w) :
    Calls Tryd.prog 3 #[.int .i64 p, va, vb, vx, .int .i64 y] w fun e w' => e = .returned (.bool true) ∧ Ext w w' := by
  have H := Lib.hid h; have HG := Lib.hid hg; clear h hg
  go_enter Tryd.func3, Tryd.ntmps3
  go_wp2_with (go_at_call 13; refine (sfield_bad _ _ H.out HG.out).mono ?_; rintro e w' ⟨v, rfl, hx, rfl⟩)
  go_ret
  exact ⟨rfl, hx⟩

set_option maxRecDepth 100000 in
set_option maxHeartbeats 2000000 in
theorem rulesSame_ok (p : Int) (va vb vx : Value) (a b : List (Int × Int)) (xs : List Int) (y : Int) (w : World) (h : okP p) (hg : Hnd w) (ha : Prs w va a) (hb : Prs w vb b) (hxs : Ints w vx xs)
    (la : a.length ≤ 1048576) (lb : b.length ≤ 1048576) (lx : xs.length ≤ 1048576) :
    Calls Tryd.prog 3 #[.int .i64 p, va, vb, vx, .int .i64 y] w fun e w' => e = .returned (.bool true) ∧ Ext w w' := by
  have H := Lib.hid h; have HG := Lib.hid hg
  obtain ⟨hp, lo, hi⟩ := h
  have hp2 : 2 ≤ p := by omega
  have HP := Lib.hid hp
  have hla := ha.run_len (P := Tryd.prog) slCells
  have hlb := hb.run_len (P := Tryd.prog) slCells
  have hlx := hxs.run_len (P := Tryd.prog) slInts
  have HA := Lib.hid ha; have HB := Lib.hid hb; have HXS := Lib.hid hxs
  clear hg hp ha hb hxs
  go_enter Tryd.func3, Tryd.ntmps3
  go_wp2_with (go_at_call 13; refine (sfield_ok _ _ H.out HG.out).mono ?_; rintro e w1 ⟨v, rfl, hx, f, g, rfl, hf⟩; obtain ⟨bf, rfl⟩ := hf.ptr)
  have HF := Lib.hid hf; clear hf
  have HX1 := Lib.hid hx; clear hx
  go_loopw [13, 15] (fun x13 x15 wr => ∃ i : Nat, x15 = .int .i64 i ∧ i ≤ a.length ∧ wr.ownsRow w1.heap.size 29 2 x13 i (flatP (nums p y (a.take i))) ∧ Ext w1 wr) (fun _ x15 _ => a.length - (intOf x15).toNat)
  case atStart => exact ⟨0, rfl, Nat.zero_le _, World.ownsRow_nil _ _ _ _, Ext.refl _⟩
  case round =>
    obtain ⟨i, rfl, hi1, HO, HX⟩ := hrel
    by_cases hlt : i < a.length
    · have hix := HA.out.run_index (P := Tryd.prog) slCells i hlt
      have c1 := (HA.out.ext (HX1.out.trans HX)).fst i hlt
      have c2 := (HA.out.ext (HX1.out.trans HX)).snd i hlt
      go_wp2_with (first | (go_at_call 14; refine (number_any _ _ _ _ hp2 hi).mono ?_; rintro e w2 ⟨rfl, hx2⟩; replace HO := own_ext HO hx2; replace HX := HX.trans hx2; clear c1 c2 hx2) | (at_builtin; refine wpList_appP rfl _ _ 22 rfl slCells rfl HX HO rfl rfl (by omega) (by omega) ?_; intro v' w3 HO' HX' _))
      go_roundw
      case rel => exact ⟨i + 1, by go_num, by omega, by rw [nums_step p y hlt]; exact HO', HX'⟩
      case measure => simp [intOf]; omega
    · obtain rfl : i = a.length := by omega
      rw [List.take_length] at HO
      have hpu := Prs.of_own HO
      have HPU := Lib.hid hpu; clear hpu HO
      have HXa := Lib.hid (HX1.out.trans HX)
      have HF2 := Lib.hid (HF.out.ext HX)
      clear HX
      go_wp2_with fail
      go_loopw [14, 17] (fun x14 x17 ws => ∃ i : Nat, x17 = .int .i64 i ∧ i ≤ b.length ∧ ws.ownsRow wr.heap.size 29 2 x14 i (flatP (nums p y (b.take i))) ∧ Ext wr ws) (fun _ x17 _ => b.length - (intOf x17).toNat)
      case atStart => exact ⟨0, rfl, Nat.zero_le _, World.ownsRow_nil _ _ _ _, Ext.refl _⟩
      case round =>
        obtain ⟨i, rfl, hi1, HO, HX⟩ := hrel
        by_cases hlt : i < b.length
        · have hix := HB.out.run_index (P := Tryd.prog) slCells i hlt
          have c1 := (HB.out.ext (HXa.out.trans HX)).fst i hlt
          have c2 := (HB.out.ext (HXa.out.trans HX)).snd i hlt
          go_wp2_with (first | (go_at_call 14; refine (number_any _ _ _ _ hp2 hi).mono ?_; rintro e w2 ⟨rfl, hx2⟩; replace HO := own_ext HO hx2; replace HX := HX.trans hx2; clear c1 c2 hx2) | (at_builtin; refine wpList_appP rfl _ _ 22 rfl slCells rfl HX HO rfl rfl (by omega) (by omega) ?_; intro v' w3 HO' HX' _))
          go_roundw
          case rel => exact ⟨i + 1, by go_num, by omega, by rw [nums_step p y hlt]; exact HO', HX'⟩
          case measure => simp [intOf]; omega
        · obtain rfl : i = b.length := by omega
          rw [List.take_length] at HO
          have hpv := Prs.of_own HO
          have HPV := Lib.hid hpv; clear hpv HO
          have HXb := Lib.hid (HXa.out.trans HX)
          have HPU2 := Lib.hid (HPU.out.ext HX)
          have HF3 := Lib.hid (HF2.out.ext HX)
          clear HX
          go_wp2_with (go_at_call 15; refine (each_any _ _ _ _ _ HPU2.out HPV.out (by rw [nums_length]; omega) (by rw [nums_length]; omega)).mono ?_; rintro e w4 ⟨rfl, hx4⟩)
          have HX4 := Lib.hid (HXb.out.trans hx4)
          have HF4 := Lib.hid (HF3.out.ext hx4)
          clear hx4
          generalize hE : permB (nums p y a) (nums p y b) = E
          go_loopw [20, 21] (fun x20 x21 ws => ∃ i : Nat, x21 = .int .i64 i ∧ i ≤ xs.length ∧ x20 = .bool ((xs.take i).all (sameB p y a b)) ∧ Ext w4 ws) (fun _ x21 _ => xs.length - (intOf x21).toNat)
          case atStart => exact ⟨0, rfl, Nat.zero_le _, by simp, Ext.refl _⟩
          case round =>
            obtain ⟨i, rfl, hi1, rfl, HX⟩ := hrel
            have HE := Lib.hid hE; clear hE
            by_cases hlt : i < xs.length
            · have hix := HXS.out.run_index (P := Tryd.prog) slInts i hlt
              have hcx := (HXS.out.ext (HX4.out.trans HX)).cell i hlt
              obtain ⟨fs, hfl⟩ := (HF4.out.ext HX).fld
              have HFL := Lib.hid hfl; clear hfl
              have HST := Lib.hid (all_take_step hlt (sameB p y a b))
              have hse : E = true → (fprod p y (nth xs i) a == fprod p y (nth xs i) b) = true := fun h => sameB_of_perm (HE.out.trans h) _
              have hsd : sameB p y a b (nth xs i) = (fprod p y (nth xs i) a == fprod p y (nth xs i) b) := rfl
              have HSD := Lib.hid hsd; clear hsd
              generalize hT : (xs.take i).all (sameB p y a b) = T
              have HT := Lib.hid hT; clear hT
              cases hS : (fprod p y (nth xs i) a == fprod p y (nth xs i) b) <;> cases E
              case false.true => rw [hse rfl] at hS; cases hS
              all_goals
                clear hse
                cases T
                all_goals
                  go_wp2_with (first | (go_at_call 16; refine (same_any HFL.out _ _ _ _ _ _ (HA.out.ext (HX4.out.trans HX)) (HB.out.ext (HX4.out.trans HX))).mono ?_; rintro e w5 ⟨rfl, hx5⟩; replace HX := HX.trans hx5; replace hcx := hx5.cell hcx; clear hx5) | (go_at_call_of 17 va; refine (make_any _ _ _ _ _ _ (HA.out.ext (HX4.out.trans HX)) hp2 hi).mono ?_; rintro e w5 ⟨rfl, hx5⟩; replace HX := HX.trans hx5; replace hcx := hx5.cell hcx; clear hx5) | (go_at_call_of 17 vb; refine (make_any _ _ _ _ _ _ (HB.out.ext (HX4.out.trans HX)) hp2 hi).mono ?_; rintro e w5 ⟨rfl, hx5⟩; replace HX := HX.trans hx5; replace hcx := hx5.cell hcx; clear hx5))
                  go_roundw
                  case rel => exact ⟨i + 1, by go_num, by omega, by rw [HST.out, HT.out, HSD.out, hS]; rfl, HX⟩
                  case measure => simp [intOf]; omega
            · obtain rfl : i = xs.length := by omega
              have hfin : E = false → a.length = b.length → a.length ≤ xs.length → unlB p xs = true → (xs.take xs.length).all (sameB p y a b) = false := fun h1 h2 h3 h4 => by
                rw [List.take_length]; exact not_all_same HP.out (HE.out.trans h1) h2 h3 (unlB_iff.1 h4)
              have HFIN := Lib.hid hfin; clear hfin
              generalize hT : (xs.take xs.length).all (sameB p y a b) = T
              have HT := Lib.hid hT; clear hT
              have hun : ∃ U, unlB p xs = U := ⟨_, rfl⟩
              obtain ⟨U, hU⟩ := hun
              have HU := Lib.hid hU; clear hU
              cases E
              · by_cases hl : a.length = b.length
                · have hne : ((a.length : Int) != b.length) = false := by rw [bne_eq_false_iff_eq]; omega
                  have HLL := Lib.hid hl; clear hl
                  by_cases hn : xs.length < a.length
                  · go_wp2_with (go_at_call 18; refine (unlike_any _ _ _ _ (HXS.out.ext (HX4.out.trans HX)) hp2 hi (by omega)).mono ?_; rintro e w6 ⟨rfl, hx6⟩; rw [HU.out])
                    go_ret
                    exact ⟨rfl, (HX4.out.trans HX).trans hx6⟩
                  · cases U
                    · go_wp2_with (go_at_call 18; refine (unlike_any _ _ _ _ (HXS.out.ext (HX4.out.trans HX)) hp2 hi (by omega)).mono ?_; rintro e w6 ⟨rfl, hx6⟩; rw [HU.out])
                      go_ret
                      exact ⟨rfl, (HX4.out.trans HX).trans hx6⟩
                    · have hTf : T = false := by rw [← HT.out]; exact HFIN.out rfl HLL.out (by omega) HU.out
                      subst hTf
                      go_wp2_with (go_at_call 18; refine (unlike_any _ _ _ _ (HXS.out.ext (HX4.out.trans HX)) hp2 hi (by omega)).mono ?_; rintro e w6 ⟨rfl, hx6⟩; rw [HU.out])
                      go_ret
                      exact ⟨rfl, (HX4.out.trans HX).trans hx6⟩
                · have hne : ((a.length : Int) != b.length) = true := by rw [bne_iff_ne]; omega
                  clear hl
                  go_wp2_with (go_at_call 18; refine (unlike_any _ _ _ _ (HXS.out.ext (HX4.out.trans HX)) hp2 hi (by omega)).mono ?_; rintro e w6 ⟨rfl, hx6⟩; rw [HU.out])
                  go_ret
                  exact ⟨rfl, (HX4.out.trans HX).trans hx6⟩
              · go_wp2_with (go_at_call 18; refine (unlike_any _ _ _ _ (HXS.out.ext (HX4.out.trans HX)) hp2 hi (by omega)).mono ?_; rintro e w6 ⟨rfl, hx6⟩; rw [HU.out])
                go_ret
                exact ⟨rfl, (HX4.out.trans HX).trans hx6⟩
end Go.Proofs.YthjemncbphdomaaDoor
