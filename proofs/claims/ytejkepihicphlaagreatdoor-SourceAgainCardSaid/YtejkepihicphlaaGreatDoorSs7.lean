/- A text's reader, the program's side: what stands in brackets, with commas between: contract for any closure. -/
import Derived.Test.YtejkepihicphlaaGreatDoorSs6
namespace Go.Proofs.YtejkepihicphlaaGreatDoor
open Go.RowKit Go.Att Go.Shelf
def LsGot {α : Type} (w0 : World) (b : Nat) (L : List UInt8) (lv : Nat) (Inv : World → α → Prop) (r : Ps α) (e : Ending) (w' : World) : Prop :=
  match r with
  | .ok x j => e = .returned (.tuple #[]) ∧ RdAt w' b L j lv ∧ Inv w' x
  | .bad a k => FStop w0 b a k e w'
section
variable {α : Type} {w0 w w' : World} {b : Nat} {L : List UInt8} {i lv : Nat}
theorem LsGot.cases {Inv : World → α → Prop} {r : Ps α} {e : Ending} (h : LsGot w0 b L lv Inv r e w') : (∃ a k, r = .bad a k ∧ FStop w0 b a k e w') ∨ ∃ x j, r = .ok x j ∧ e = .returned (.tuple #[]) ∧ RdAt w' b L j lv ∧ Inv w' x := by
  cases r with
  | ok x i => exact .inr ⟨x, i, rfl, h⟩
  | bad a k => exact .inl ⟨a, k, rfl, h⟩
theorem LsGot.bad {Inv : World → α → Prop} {r : Ps α} {a k : Nat} {e : Ending} (hr : r = .bad a k) (h : FStop w0 b a k e w') : LsGot w0 b L lv Inv r e w' := by subst hr; exact h
theorem LsGot.ok {Inv : World → α → Prop} {r : Ps α} {x : α} {j : Nat} (hr : r = .ok x j) (h1 : RdAt w' b L j lv) (h2 : Inv w' x) : LsGot w0 b L lv Inv r (.returned (.tuple #[])) w' := by subst hr; exact ⟨rfl, h1, h2⟩
theorem RdAt.back (h : RdAt w b L i (lv + 1)) {v : Int} (hv : v = lv) : RdAt (w.setCell ⟨b, 5, none⟩ (.int .i64 v)) b L i lv := by
  subst hv
  exact ⟨BlkOf.set h.blk 5 (.int .i64 (lv : Int)), h.le⟩
theorem RdAt.lev (h : RdAt w b L i (lv + 1)) : w.cell? ⟨b, 5, none⟩ = some (.int .i64 ((lv : Int) + 1)) := BlkOf.cell h.blk 5
set_option maxRecDepth 100000 in
set_option maxHeartbeats 4000000 in
theorem slist_any {one : Nat → Ps α} (_hm : Mono L one) (hp : Prog1 L one) {k : Nat} (fid : FuncId) (c1 c2 : Value) (hfid : ∀ (xs : Array Value) (W : World), (callFunc fid xs).run Tryz.prog W = .ok (.enter fid xs) W)
    (Inv : World → List α → Prop) (hG : ∀ W acc, Inv W acc → w0.grownBy W (some b)) (hK : ∀ W W' acc, Inv W acc → W.grownBy W' (some b) → Inv W' acc)
    (hO : k ≠ 0 → ∀ W acc i, acc.length ≤ i → RdAt W b L i (lv + 1) → Inv W acc → Calls Tryz.prog fid #[c1, c2] W (LsGot w0 b L (lv + 1) (fun w' x => Inv w' (acc ++ [x])) (one i)))
    (h : RdAt w b L i lv) (hI : Inv w []) (hL : L.length ≤ 4000) (hk : lv + k = 64) :
    Calls Tryz.prog 62 #[.pointer (some ⟨b, 0, none⟩), .func (.func fid) #[] #[c1, c2]] w (LsGot w0 b L lv Inv (listT L k one i)) := by
  have H := Lib.hid h; have HI := Lib.hid hI; have HO := Lib.hid hO; have HG := Lib.hid hG; have HK := Lib.hid hK
  have HJ := Lib.hid (show listT L k one i = if isT L i [40] then (enterT L k i).bind fun _ i => if isT L i [41] then .ok [] (nxtN L i) else (one i).bind fun x j => moreT L one (L.length + 1) [x] j else .bad (tokN L i).pos 5 from rfl)
  have HS := Lib.hid (sis_any h [40])
  clear h hI hO hG hK
  generalize listT L k one i = R at *
  cases e40 : isT L i [40] with
  | false =>
    rw [e40] at HS
    have HJ2 := Lib.hid (show R = .bad (tokN L i).pos 5 from HJ.out.trans (by rw [e40, if_neg (by simp)]))
    clear e40 HJ
    go_enter Tryz.func62, Tryz.ntmps62
    go_wp2_with (first | (go_at_call 112; refine HS.out.mono ?_; rintro e w1 ⟨rfl, rfl⟩) | (go_at_call 110; refine (sfail_any H.out 5).mono ?_; rintro e w1 ⟨rfl, hg⟩))
    exact ⟨rfl, LsGot.bad HJ2.out ⟨rfl, grown_one (HG.out _ _ HI.out) hg⟩⟩
  | true =>
    rw [e40] at HS
    have HJ2 := Lib.hid (show R = (enterT L k i).bind fun _ i => if isT L i [41] then .ok [] (nxtN L i) else (one i).bind fun x j => moreT L one (L.length + 1) [x] j from HJ.out.trans (by rw [e40, if_pos rfl]))
    clear e40 HJ
    go_enter Tryz.func62, Tryz.ntmps62
    go_upto_region 2 with (go_at_call 112; refine HS.out.mono ?_; rintro e w1 ⟨rfl, rfl⟩)
    go_wp2_with fail
    refine (senter_any H.out hL hk).mono ?_
    intro e w1 h1
    rcases PGot.cases h1 with ⟨a, d, hr, he, hg⟩ | ⟨x, j, v, hr, rfl, hr1, hg1, rfl⟩
    · subst he
      go_wp2_with fail
      exact ⟨rfl, LsGot.bad (HJ2.out.trans (by rw [hr]; rfl)) ⟨rfl, grown_one (HG.out _ _ HI.out) hg⟩⟩
    · have HJ3 := Lib.hid (show R = if isT L j [41] then .ok [] (nxtN L j) else (one j).bind fun x j => moreT L one (L.length + 1) [x] j from HJ2.out.trans (by rw [hr]; rfl))
      have HO := Lib.hid (HO.out (enter_ok.mp hr).1)
      have HR1 := Lib.hid hr1
      have HI1 := Lib.hid (HK.out _ _ _ HI.out hg1)
      have HS1 := Lib.hid (sis_any hr1 [41])
      clear hr hr1 hg1 h1 HJ2 HI H HS
      have hlv : lv ≤ 64 := by omega
      clear hk
      cases e41 : isT L j [41] with
      | true =>
        rw [e41] at HS1
        have HJ4 := Lib.hid (show R = .ok [] (nxtN L j) from HJ3.out.trans (by rw [e41, if_pos rfl]))
        have HMU := Lib.hid (smust_any HR1.out hL [41])
        have HMT := Lib.hid (show mustT L j [41] = .ok () (nxtN L j) from by unfold mustT; rw [e41, if_pos rfl])
        rw [HMT.out] at HMU
        clear e41 HJ3 HMT
        go_upto_region 7 with (go_at_call 112; refine HS1.out.mono ?_; rintro e w2 ⟨rfl, rfl⟩)
        go_upto_region 8 with (go_at_call 60; refine HMU.out.mono ?_; rintro e w2 ⟨v, rfl, hr2, hg2, rfl⟩; have HR2 := Lib.hid hr2; have HG2 := Lib.hid hg2; clear hr2 hg2)
        have c5 := HR2.out.lev
        have f5 := BlkOf.free HR2.out.blk 5
        go_wp2_with fail
        go_end0
        exact LsGot.ok HJ4.out (HR2.out.back (by omega)) (HK.out _ _ _ HI1.out (grown_one HG2.out (setCell_grown _ _ _ _)))
      | false =>
        rw [e41] at HS1
        have HJ4 := Lib.hid (show R = (one j).bind fun x j => moreT L one (L.length + 1) [x] j from HJ3.out.trans (by rw [e41, if_neg (by simp)]))
        clear e41 HJ3
        go_upto_region 4 with (go_at_call 112; refine HS1.out.mono ?_; rintro e w2 ⟨rfl, rfl⟩)
        go_wp2_with fail
        refine (HO.out _ _ _ (Nat.zero_le _) HR1.out HI1.out).mono ?_
        intro e w2 h2
        rcases h2.cases with ⟨a, d, hr, he, hg⟩ | ⟨x, m, hr, rfl, hr2, hi2⟩
        · subst he
          go_wp2_with fail
          exact ⟨rfl, LsGot.bad (HJ4.out.trans (by rw [hr]; rfl)) ⟨rfl, hg⟩⟩
        · have HJ5 := Lib.hid (show R = moreT L one (L.length + 1) [x] m from HJ4.out.trans (by rw [hr]; rfl))
          have HR2 := Lib.hid hr2; have HI2 := Lib.hid (show Inv w2 [x] from hi2)
          have hjm := hp _ _ _ HR1.out.le hr
          clear hr hr2 hi2 h2 HJ4 HI1 HR1 HS1
          go_wp2_with fail
          go_loopw [] (fun wr => ∃ (acc : List α) (j n : Nat), Hid (RdAt wr b L j (lv + 1)) ∧ Hid (Inv wr acc) ∧ Hid (R = moreT L one n acc j) ∧ L.length + 1 ≤ n + j ∧ j ≤ L.length ∧ acc.length ≤ j) (fun wr => L.length - nextAt wr b)
          case atStart => exact ⟨[x], m, L.length + 1, HR2, HI2, HJ5, by omega, HR2.out.le, by simp; omega⟩
          case round =>
            clear HJ5 HI2 HR2 hjm
            clear x m
            obtain ⟨acc, j, n, HR, HI, HJ, hn, hj, hac⟩ := hrel
            obtain ⟨n, rfl⟩ : ∃ m, n = m + 1 := ⟨n - 1, by omega⟩
            have HM := Lib.hid (nextAt_rd HR.out.blk)
            have HJ2 := Lib.hid (show R = if isT L j [44] then (one (nxtN L j)).bind fun x j => moreT L one n (acc ++ [x]) j else (mustT L j [41]).bind fun _ j => .ok acc j from HJ.out)
            clear HJ
            cases e44 : isT L j [44] with
            | true =>
              have HSA := Lib.hid (sskd_yes HR.out hL e44)
              have hgt := isT_gt e44
              have HJ3 := Lib.hid (show R = (one (nxtN L j)).bind fun x j => moreT L one n (acc ++ [x]) j from HJ2.out.trans (by rw [e44, if_pos rfl]))
              have HNL := Lib.hid (nxtN_le L j hj)
              have HPG := Lib.hid (hp (nxtN L j))
              clear e44 HJ2
              go_upto_region 6 with (go_at_call 109; refine HSA.out.mono ?_; rintro e w2 ⟨rfl, hr2, hg2⟩; have HR2 := Lib.hid hr2; have HI2 := Lib.hid (HK.out _ _ _ HI.out hg2); clear hr2 hg2)
              go_wp2_with fail
              refine (HO.out _ _ _ (Nat.le_trans hac (nxtN_ge L j)) HR2.out HI2.out).mono ?_
              intro e w3 h3
              rcases h3.cases with ⟨a, d, hr, he, hg⟩ | ⟨y, m, hr, rfl, hr3, hi3⟩
              · subst he
                go_wp2_with fail
                exact ⟨rfl, LsGot.bad (HJ3.out.trans (by rw [hr]; rfl)) ⟨rfl, hg⟩⟩
              · have HJ4 := Lib.hid (show R = moreT L one n (acc ++ [y]) m from HJ3.out.trans (by rw [hr]; rfl))
                have hjm := HPG.out _ _ HNL.out hr
                have HR3 := Lib.hid hr3; have HI3 := Lib.hid hi3
                clear hr hr3 hi3 h3
                go_wp2_with fail
                go_roundw
                case rel => exact ⟨acc ++ [y], m, n, HR3, HI3, HJ4, by omega, HR3.out.le, by simp; omega⟩
                case measure =>
                  rw [HM.out, nextAt_rd HR3.out.blk]
                  have := nxtN_ge L m
                  have := HNL.out
                  have := HR3.out.le
                  omega
            | false =>
              have HSA := Lib.hid (sskd_no HR.out hL e44)
              have HJ3 := Lib.hid (show R = (mustT L j [41]).bind fun _ j => .ok acc j from HJ2.out.trans (by rw [e44, if_neg (by simp)]))
              clear e44 HJ2
              go_upto_region 7 with (go_at_call 109; refine HSA.out.mono ?_; rintro e w2 ⟨rfl, hr2, hg2⟩; have HR2 := Lib.hid hr2; have HI2 := Lib.hid (HK.out _ _ _ HI.out hg2); clear hr2 hg2)
              go_wp2_with fail
              refine (smust_any HR2.out hL [41]).mono ?_
              intro e w3 h3
              rcases h3.cases with ⟨a, d, hr, he, hg⟩ | ⟨y, m, v, hr, rfl, hr3, hg3, rfl⟩
              · subst he
                go_wp2_with fail
                exact ⟨rfl, LsGot.bad (HJ3.out.trans (by rw [hr]; rfl)) ⟨rfl, grown_one (HG.out _ _ HI2.out) hg⟩⟩
              · have HJ4 := Lib.hid (show R = .ok acc m from HJ3.out.trans (by rw [hr]; rfl))
                have HR3 := Lib.hid hr3; have HG3 := Lib.hid hg3
                clear hr hr3 hg3 h3
                have c5 := HR3.out.lev
                have f5 := BlkOf.free HR3.out.blk 5
                go_wp2_with fail
                go_end0
                exact LsGot.ok HJ4.out (HR3.out.back (by omega)) (HK.out _ _ _ HI2.out (grown_one HG3.out (setCell_grown _ _ _ _)))
end
end Go.Proofs.YtejkepihicphlaaGreatDoor
