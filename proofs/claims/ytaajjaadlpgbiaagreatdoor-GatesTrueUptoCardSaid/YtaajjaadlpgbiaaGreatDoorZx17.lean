/- A circuit is shown: plain: layer by layer. No program in sight. Whether a circuit is shown: plain: layer by layer. No program in sight. What numbers at 0, 1, .. are at a point: gates.through: contract. Whether each of some rows has three numbers, the program's side: contract. Whether a circuit is shown: plain: the whole answer. No program in sight. Are two lists the same? Contract. Two that show a circuit are the same: contract. How what is told of a circuit reads, that came in: a struct of lists of lists of lists and of lists. -/
import Derived.Test.YtaajjaadlpgbiaaGreatDoorGd
import Derived.Test.YtaajjaadlpgbiaaGreatDoorZx16
import Derived.Test.YtaajjaadlpgbiaaGreatDoorQc
import Derived.Test.YtaajjaadlpgbiaaGreatDoorZx1
import Derived.Test.YtaajjaadlpgbiaaGreatDoorVc
import Derived.Test.YtaajjaadlpgbiaaGreatDoorZx3
section
namespace Go.Att
open Go.RowKit
/-- A layer's sum with some variables fixed; its rounds, its line, what is drawn. -/
noncomputable def layF (p wd : Int) (Ls : List (List Tri)) (inp : List Int) (i : Nat) (z : List Int) (xs : List Int) : Int := partS (nthY Ls i) (beneath wd Ls i).toNat (vrow p Ls inp i) z xs (nthY Ls i).length % p
noncomputable def layS (p : Int) (k : Nat) (wd : Int) (Ls : List (List Tri)) (inp : List Int) (i : Nat) (z D : List Int) : List Int × List Int := dwn p k (layF p wd Ls inp i z) D (2 * (beneath wd Ls i).toNat)
noncomputable def layR (p : Int) (k : Nat) (wd : Int) (Ls : List (List Tri)) (inp : List Int) (i : Nat) (z D : List Int) : List (List Int) := dwnT p k (layF p wd Ls inp i z) D (2 * (beneath wd Ls i).toNat)
noncomputable def layN (p : Int) (k : Nat) (wd : Int) (Ls : List (List Tri)) (inp : List Int) (i : Nat) (z D : List Int) : List Int := lineN p (vrow p Ls inp i) ((layS p k wd Ls inp i z D).1.take (beneath wd Ls i).toNat) ((layS p k wd Ls inp i z D).1.drop (beneath wd Ls i).toNat) ((beneath wd Ls i).toNat + 1)
noncomputable def layD (p : Int) (k : Nat) (wd : Int) (Ls : List (List Tri)) (inp : List Int) (i : Nat) (z D : List Int) : List Int := stepP p k 4 (stepP p k 3 (layS p k wd Ls inp i z D).2 (layN p k wd Ls inp i z D)) []
noncomputable def layZ (p : Int) (k : Nat) (wd : Int) (Ls : List (List Tri)) (inp : List Int) (i : Nat) (z D : List Int) : List Int := onL p ((layS p k wd Ls inp i z D).1.take (beneath wd Ls i).toNat) ((layS p k wd Ls inp i z D).1.drop (beneath wd Ls i).toNat) (nth (layD p k wd Ls inp i z D) 0)
/-- The point and the chain behind so many layers; all rounds, all lines. -/
noncomputable def mkS (p : Int) (k : Nat) (wd : Int) (Ls : List (List Tri)) (inp z D : List Int) : Nat → List Int × List Int
  | 0 => (z, D)
  | j + 1 => (layZ p k wd Ls inp (Ls.length - 1 - j) (mkS p k wd Ls inp z D j).1 (mkS p k wd Ls inp z D j).2, layD p k wd Ls inp (Ls.length - 1 - j) (mkS p k wd Ls inp z D j).1 (mkS p k wd Ls inp z D j).2)
noncomputable def mkR (p : Int) (k : Nat) (wd : Int) (Ls : List (List Tri)) (inp z D : List Int) (j : Nat) : List (List (List Int)) := (List.range j).map fun t => layR p k wd Ls inp (Ls.length - 1 - t) (mkS p k wd Ls inp z D t).1 (mkS p k wd Ls inp z D t).2
noncomputable def mkL (p : Int) (k : Nat) (wd : Int) (Ls : List (List Tri)) (inp z D : List Int) (j : Nat) : List (List Int) := (List.range j).map fun t => layN p k wd Ls inp (Ls.length - 1 - t) (mkS p k wd Ls inp z D t).1 (mkS p k wd Ls inp z D t).2
theorem mkR_snoc (p : Int) (k : Nat) (wd : Int) (Ls : List (List Tri)) (inp z D : List Int) (j : Nat) : mkR p k wd Ls inp z D (j + 1) = mkR p k wd Ls inp z D j ++ [layR p k wd Ls inp (Ls.length - 1 - j) (mkS p k wd Ls inp z D j).1 (mkS p k wd Ls inp z D j).2] := by simp [mkR, List.range_succ]
theorem mkL_snoc (p : Int) (k : Nat) (wd : Int) (Ls : List (List Tri)) (inp z D : List Int) (j : Nat) : mkL p k wd Ls inp z D (j + 1) = mkL p k wd Ls inp z D j ++ [layN p k wd Ls inp (Ls.length - 1 - j) (mkS p k wd Ls inp z D j).1 (mkS p k wd Ls inp z D j).2] := by simp [mkL, List.range_succ]
theorem mkR_len (p : Int) (k : Nat) (wd : Int) (Ls : List (List Tri)) (inp z D : List Int) (j : Nat) : (mkR p k wd Ls inp z D j).length = j := by simp [mkR]
theorem mkL_len (p : Int) (k : Nat) (wd : Int) (Ls : List (List Tri)) (inp z D : List Int) (j : Nat) : (mkL p k wd Ls inp z D j).length = j := by simp [mkL]
theorem layD_len (p : Int) (k : Nat) (wd : Int) (Ls : List (List Tri)) (inp : List Int) (i : Nat) (z D : List Int) : (layD p k wd Ls inp i z D).length = 4 := stepP_length _ _ _ _ _
theorem layZ_len (p : Int) (k : Nat) (wd : Int) (Ls : List (List Tri)) (inp : List Int) (i : Nat) (z D : List Int) : (layZ p k wd Ls inp i z D).length = (beneath wd Ls i).toNat := by
  unfold layZ
  rw [onL_length, List.length_take]
  unfold layS
  rw [dwn_len]; omega
theorem mkS_dig (p : Int) (k : Nat) (wd : Int) (Ls : List (List Tri)) (inp z : List Int) {D : List Int} (h : D.length = 4) : ∀ j, (mkS p k wd Ls inp z D j).2.length = 4
  | 0 => h
  | _j + 1 => layD_len _ _ _ _ _ _ _ _
theorem mkS_len (p : Int) (k : Nat) (wd : Int) (Ls : List (List Tri)) (inp D : List Int) {z : List Int} (hz : (z.length : Int) = wideOf (nthY Ls (Ls.length - 1)).length) (hE : cirErr wd Ls = 0) : ∀ j, j < Ls.length → ((mkS p k wd Ls inp z D j).1.length : Int) = wideOf (nthY Ls (Ls.length - 1 - j)).length
  | 0, _ => by simpa [mkS] using hz
  | j + 1, hj => by
    have hb := (beneath_bd (cirErr_ok hE).1 (i := Ls.length - 1 - j) (by omega)).1
    simp only [mkS]
    rw [layZ_len]
    have : beneath wd Ls (Ls.length - 1 - j) = wideOf (nthY Ls (Ls.length - 1 - (j + 1))).length := by
      unfold beneath
      rw [if_neg (by omega)]
      congr 3
    rw [← this]; omega
/-- A list of lists of lists. -/
def nthC (L : List (List (List Int))) (i : Nat) : List (List Int) := L.getD i []
theorem nthC_snoc (L : List (List (List Int))) (l : List (List Int)) (i : Nat) (h : i < L.length + 1) : nthC (L ++ [l]) i = if i < L.length then nthC L i else l := by
  unfold nthC
  simp only [List.getD_eq_getElem?_getD]
  by_cases h1 : i < L.length
  · rw [List.getElem?_append_left h1, if_pos h1]
  · rw [List.getElem?_append_right (by omega), if_neg h1, show i - L.length = 0 by omega]; rfl
def Cub (w : World) (v : Value) (L : List (List (List Int))) : Prop := ∃ Q : Nat → Value, Sl w 1 v L.length ((List.range L.length).map Q) ∧ ∀ i, i < L.length → Rws w (Q i) (nthC L i)
theorem Cub.ext {w w' : World} {v : Value} {L : List (List (List Int))} (h : Cub w v L) (hx : Ext w w') : Cub w' v L := by
  obtain ⟨Q, h1, h2⟩ := h
  exact ⟨Q, h1.ext hx, fun i hi => (h2 i hi).ext hx⟩
end Go.Att
end
section
namespace Go.Att
open Go.RowKit
/-- What the polynomial through numbers at 0, 1, .. is at a point. -/
def thrV (p : Int) (l : List Int) (t : Int) : Int := ev (fitL p (idxL l.length) l) t % p
/-- The program's answer is the document's. -/
theorem thr_fit {p : Int} (hp : Pr p) (l : List Int) (hn : (l.length : Int) + 2 ≤ p) (t : Int) : ev (trimL p (fitQ p (idxL l.length) l l.length)) t % p = thrV p l t := by
  rw [ev_trim, fitQ_ev hp l l.length hn t l.length (Nat.le_refl _)]
  unfold thrV fitL
  rw [idxL_length]
/-- The rounds of a layer: what was drawn, what is claimed, the chain. -/
def ckS (p : Int) (k : Nat) (T : List (List Int)) (c : Int) (D : List Int) : Nat → List Int × Int × List Int
  | 0 => ([], c, D)
  | m + 1 => ((ckS p k T c D m).1 ++ [nth (stepP p k 4 (stepP p k 3 (ckS p k T c D m).2.2 (nthL T m)) []) 0], thrV p (nthL T m) (nth (stepP p k 4 (stepP p k 3 (ckS p k T c D m).2.2 (nthL T m)) []) 0), stepP p k 4 (stepP p k 3 (ckS p k T c D m).2.2 (nthL T m)) [])
theorem ckS_len (p : Int) (k : Nat) (T : List (List Int)) (c : Int) (D : List Int) : ∀ m, (ckS p k T c D m).1.length = m
  | 0 => rfl
  | m + 1 => by simp [ckS, ckS_len p k T c D m]
theorem ckS_dig (p : Int) (k : Nat) (T : List (List Int)) (c : Int) {D : List Int} (h : D.length = 4) : ∀ m, (ckS p k T c D m).2.2.length = 4
  | 0 => h
  | _m + 1 => stepP_length _ _ _ _ _
/-- A round has what is claimed as its sum. -/
def ckB (p : Int) (k : Nat) (T : List (List Int)) (c : Int) (D : List Int) (m : Nat) : Bool := fadd p (nth (nthL T m) 0) (nth (nthL T m) 1) == (ckS p k T c D m).2.1
/-- The first rounds have it. -/
def ckA (p : Int) (k : Nat) (T : List (List Int)) (c : Int) (D : List Int) : Nat → Bool
  | 0 => true
  | m + 1 => ckA p k T c D m && ckB p k T c D m
theorem ckA_false {p : Int} {k : Nat} {T : List (List Int)} {c : Int} {D : List Int} {m : Nat} (h : ckB p k T c D m = false) : ∀ n, m < n → ckA p k T c D n = false
  | 0, hn => by omega
  | n + 1, hn => by
    simp only [ckA]
    by_cases e : m = n
    · subst e; rw [h, Bool.and_false]
    · rw [ckA_false h n (by omega), Bool.false_and]
/-- Each of the first rows has three numbers. -/
def thr3 (T : List (List Int)) : Nat → Bool
  | 0 => true
  | m + 1 => thr3 T m && ((nthL T m).length == 3)
theorem thr3_false {T : List (List Int)} {m : Nat} (h : ((nthL T m).length == 3) = false) : ∀ n, m < n → thr3 T n = false
  | 0, hn => by omega
  | n + 1, hn => by
    simp only [thr3]
    by_cases e : m = n
    · subst e; rw [h, Bool.and_false]
    · rw [thr3_false h n (by omega), Bool.false_and]
theorem thr3_at {T : List (List Int)} : ∀ {n m : Nat}, thr3 T n = true → m < n → (nthL T m).length = 3
  | 0, _, _, h => by omega
  | n + 1, m, h, hm => by
    simp only [thr3, Bool.and_eq_true, beq_iff_eq] at h
    by_cases e : m = n
    · subst e; exact h.2
    · exact thr3_at h.1 (by omega)
/-- What the line's first two numbers make of a layer's gates. -/
def lnV (p : Int) (l : List Tri) (z x y ln : List Int) (n : Nat) : Int :=
  fadd p (fmul p (wireU l 0 z x y l.length % p) (fadd p (nth ln 0) (nth ln (min 1 n)))) (fmul p (wireU l 1 z x y l.length % p) (fmul p (nth ln 0) (nth ln (min 1 n))))
/-- The form of what shows a layer. -/
def frmB (n : Nat) (T : List (List Int)) (ln : List Int) : Bool := decide (T.length = 2 * n) && decide (ln.length = n + 1) && thr3 T (2 * n)
/-- A layer is shown. -/
def lyB (p : Int) (k : Nat) (l : List Tri) (n : Nat) (z : List Int) (c : Int) (D : List Int) (T : List (List Int)) (ln : List Int) : Bool :=
  frmB n T ln && ckA p k T c D (2 * n) && (lnV p l z ((ckS p k T c D (2 * n)).1.take n) ((ckS p k T c D (2 * n)).1.drop n) ln n == (ckS p k T c D (2 * n)).2.1)
/-- The chain, the point, the claim behind it. -/
def lyD (p : Int) (k : Nat) (n : Nat) (c : Int) (D : List Int) (T : List (List Int)) (ln : List Int) : List Int := stepP p k 4 (stepP p k 3 (ckS p k T c D (2 * n)).2.2 ln) []
def lyZ (p : Int) (k : Nat) (n : Nat) (c : Int) (D : List Int) (T : List (List Int)) (ln : List Int) : List Int := onL p ((ckS p k T c D (2 * n)).1.take n) ((ckS p k T c D (2 * n)).1.drop n) (nth (lyD p k n c D T ln) 0)
def lyC (p : Int) (k : Nat) (n : Nat) (c : Int) (D : List Int) (T : List (List Int)) (ln : List Int) : Int := thrV p ln (nth (lyD p k n c D T ln) 0)
theorem lyD_len (p : Int) (k : Nat) (n : Nat) (c : Int) (D : List Int) (T : List (List Int)) (ln : List Int) : (lyD p k n c D T ln).length = 4 := stepP_length _ _ _ _ _
theorem lyZ_len (p : Int) (k : Nat) (n : Nat) (c : Int) (D : List Int) (T : List (List Int)) (ln : List Int) : (lyZ p k n c D T ln).length = n := by
  unfold lyZ; rw [onL_length, List.length_take, ckS_len]; omega
/-- Layer by layer from the last one: the point, the claim, the chain; are they shown? -/
def chS (p : Int) (k : Nat) (wd : Int) (Ls : List (List Tri)) (U : List (List (List Int))) (V : List (List Int)) (z : List Int) (c : Int) (D : List Int) : Nat → List Int × Int × List Int
  | 0 => (z, c, D)
  | j + 1 => (lyZ p k (beneath wd Ls (Ls.length - 1 - j)).toNat (chS p k wd Ls U V z c D j).2.1 (chS p k wd Ls U V z c D j).2.2 (nthC U j) (nthL V j), lyC p k (beneath wd Ls (Ls.length - 1 - j)).toNat (chS p k wd Ls U V z c D j).2.1 (chS p k wd Ls U V z c D j).2.2 (nthC U j) (nthL V j), lyD p k (beneath wd Ls (Ls.length - 1 - j)).toNat (chS p k wd Ls U V z c D j).2.1 (chS p k wd Ls U V z c D j).2.2 (nthC U j) (nthL V j))
def chB (p : Int) (k : Nat) (wd : Int) (Ls : List (List Tri)) (U : List (List (List Int))) (V : List (List Int)) (z : List Int) (c : Int) (D : List Int) (j : Nat) : Bool :=
  lyB p k (nthY Ls (Ls.length - 1 - j)) (beneath wd Ls (Ls.length - 1 - j)).toNat (chS p k wd Ls U V z c D j).1 (chS p k wd Ls U V z c D j).2.1 (chS p k wd Ls U V z c D j).2.2 (nthC U j) (nthL V j)
def chA (p : Int) (k : Nat) (wd : Int) (Ls : List (List Tri)) (U : List (List (List Int))) (V : List (List Int)) (z : List Int) (c : Int) (D : List Int) : Nat → Bool
  | 0 => true
  | j + 1 => chA p k wd Ls U V z c D j && chB p k wd Ls U V z c D j
theorem chA_false {p : Int} {k : Nat} {wd : Int} {Ls : List (List Tri)} {U : List (List (List Int))} {V : List (List Int)} {z : List Int} {c : Int} {D : List Int} {m : Nat} (h : chB p k wd Ls U V z c D m = false) : ∀ n, m < n → chA p k wd Ls U V z c D n = false
  | 0, hn => by omega
  | n + 1, hn => by
    simp only [chA]
    by_cases e : m = n
    · subst e; rw [h, Bool.and_false]
    · rw [chA_false h n (by omega), Bool.false_and]
theorem chS_dig (p : Int) (k : Nat) (wd : Int) (Ls : List (List Tri)) (U : List (List (List Int))) (V : List (List Int)) (z : List Int) (c : Int) {D : List Int} (h : D.length = 4) : ∀ j, (chS p k wd Ls U V z c D j).2.2.length = 4
  | 0 => h
  | _j + 1 => lyD_len _ _ _ _ _ _ _
theorem chS_len (p : Int) (k : Nat) (wd : Int) (Ls : List (List Tri)) (U : List (List (List Int))) (V : List (List Int)) (c : Int) (D : List Int) {z : List Int} (hz : (z.length : Int) = wideOf (nthY Ls (Ls.length - 1)).length) (hE : cirErr wd Ls = 0) : ∀ j, j < Ls.length → ((chS p k wd Ls U V z c D j).1.length : Int) = wideOf (nthY Ls (Ls.length - 1 - j)).length
  | 0, _ => by simpa [chS] using hz
  | j + 1, hj => by
    have hb := (beneath_bd (cirErr_ok hE).1 (i := Ls.length - 1 - j) (by omega)).1
    simp only [chS]
    rw [lyZ_len]
    have : beneath wd Ls (Ls.length - 1 - j) = wideOf (nthY Ls (Ls.length - 1 - (j + 1))).length := by
      unfold beneath
      rw [if_neg (by omega)]
      congr 3
    rw [← this]; omega
/-- What a circuit, its outputs and what is told of it come to: is it shown? the point, the claim. -/
noncomputable def chkB (p : Int) (k : Nat) (wd : Int) (Ls : List (List Tri)) (outs : List Int) (U : List (List (List Int))) (V : List (List Int)) (z : List Int) (D : List Int) : Bool :=
  decide (outs.length = (nthY Ls (Ls.length - 1)).length) && decide (U.length = Ls.length) && decide (V.length = Ls.length) && chA p k wd Ls U V z (ext outs z % p) D Ls.length
end Go.Att
end
section
namespace Go.Att
theorem idx_unlike {p : Int} (n : Nat) (hn : (n : Int) ≤ p) (a b : Nat) (h : a < b) (hb : b < n) : fof p (nth (idxL n) a) ≠ fof p (nth (idxL n) b) := by
  rw [idxL_nth n a (by omega), idxL_nth n b hb]
  unfold fof
  rw [Int.emod_eq_of_lt (by omega) (by omega), Int.emod_eq_of_lt (by omega) (by omega)]
  omega
end Go.Att
namespace Go.Proofs.YtaajjaadlpgbiaaGreatDoor
open Go.RowKit Go.Att
section
variable {w : World} {bf : Nat} {p g : Int} {fs : List Int}
set_option maxRecDepth 100000 in
set_option maxHeartbeats 8000000 in
theorem gthrough_any (hf : Fld w (.pointer (some ⟨bf, 0, none⟩)) p g fs) (vl : Value) (l : List Int) (t : Int) (hl : Ints w vl l) (hs : l.length ≤ 60) (hn : (l.length : Int) + 2 ≤ p) :
    Calls Tryz.prog 102 #[.pointer (some ⟨bf, 0, none⟩), vl, .int .i64 t] w (Gives w fun u _w' => u = .int .i64 (thrV p l t)) := by
  have hll := hl.run_len (P := Tryz.prog) slInts
  have HF := Lib.hid hf; have HL := Lib.hid hl; have HN := Lib.hid hn
  have HT := Lib.hid (thr_fit hf.pr l hn t)
  obtain ⟨T, hT⟩ : ∃ T, thrV p l t = T := ⟨_, rfl⟩
  rw [hT] at HT
  have HTT := Lib.hid hT
  clear hf hl hn hT
  go_enter Tryz.func102, Tryz.ntmps102
  go_wp2_with fail
  go_loopw [7, 8, 13] (fun x7 _ x13 wr => ∃ i : Nat, i ≤ l.length ∧ x13 = .int .i64 i ∧ Hid (wr.ownsRow w.heap.size 3 1 x7 i ((idxL i).map (Value.int .i64))) ∧ Hid (Ext w wr)) (fun _ _ x13 _ => l.length - (intOf x13).toNat)
  case atStart => exact ⟨0, Nat.zero_le _, rfl, Lib.hid (World.ownsRow_nil _ _ _ _), Lib.hid (Ext.refl _)⟩
  case round =>
    obtain ⟨i, hi, rfl, HO, HX⟩ := hrel
    by_cases hlt : i < l.length
    · have S := Lib.hid (idxL_step i)
      go_wp2_with (at_builtin; refine wpList_app1 rfl _ _ 23 rfl slInts rfl HX.out HO.out rfl _ rfl rfl (by omega) (by omega) ?_; intro v' w2 HO' HX' _)
      go_roundw
      case rel => exact ⟨i + 1, by omega, by go_num, Lib.hid (by rw [S.out]; exact HO'), Lib.hid HX'⟩
      case measure => simp [intOf]; omega
    · obtain rfl : i = l.length := by omega
      have HI := Lib.hid (Ints.of_own HO.out)
      have HIL := Lib.hid (idxL_length l.length)
      have HDD := Lib.hid (idx_unlike (p := p) l.length (by have := HN.out; omega))
      have HFQL := Lib.hid (show (trimL p (fitQ p (idxL l.length) l l.length)).length ≤ 60 from by
        have h1 := trimL_length p (fitQ p (idxL l.length) l l.length)
        rw [fitQ_length, idxL_length] at h1
        exact Nat.le_trans h1 hs)
      clear HO
      go_wp2_with (first | (go_at_call 136; refine (pfit_any (HF.out.ext HX.out) HI.out (HL.out.ext HX.out) HIL.out (by rw [HIL.out]; exact hs) (by rw [HIL.out]; exact HDD.out)).mono ?_; rintro e w3 ⟨u3, rfl, hx3, v3, rfl, hi3⟩; rw [HIL.out] at hi3; have HI3 := Lib.hid hi3; have HX3 := Lib.hid (HX.out.trans hx3); clear hi3 hx3) | (go_at_call 137; refine (peval_any (HF.out.ext HX3.out) _ _ t HI3.out (Nat.le_trans HFQL.out (by omega))).mono ?_; rw [HT.out]; rintro e w4 ⟨u4, rfl, hx4, rfl⟩; have HX4 := Lib.hid (HX3.out.trans hx4); clear hx4))
      go_ret
      exact .mk _ rfl HX4.out (by rw [HTT.out]; rfl)
end
end Go.Proofs.YtaajjaadlpgbiaaGreatDoor
end
section
namespace Go.Att
open Go.RowKit
def bad3 (l : List Int) : Bool := (l.length : Int) != 3
theorem bad3_not (l : List Int) : (l.length == 3) = !bad3 l := by
  unfold bad3
  rw [Bool.eq_iff_iff]
  simp only [beq_iff_eq, Bool.not_eq_true', bne_eq_false_iff_eq]
  omega
theorem bad3_thr : ∀ (T : List (List Int)) (n : Nat), n ≤ T.length → thr3 T n = !(T.take n).any bad3
  | _, 0, _ => rfl
  | T, n + 1, h => by
    have hn : n < T.length := by omega
    simp only [thr3]
    rw [bad3_thr T n (by omega), List.take_succ_eq_append_getElem hn, List.any_append, nthL_eq hn]
    simp only [List.any_cons, List.any_nil, Bool.or_false]
    rw [Bool.not_or, bad3_not]
theorem thr3_bad {T : List (List Int)} : thr3 T T.length = !T.any bad3 := by rw [bad3_thr T _ (Nat.le_refl _), List.take_length]
theorem nthL_mem {L : List (List Int)} {i : Nat} (h : i < L.length) : nthL L i ∈ L := by rw [nthL_eq h]; exact List.getElem_mem h
end Go.Att
namespace Go.Proofs.YtaajjaadlpgbiaaGreatDoor
open Go.RowKit Go.Att
theorem ck3_any (v : Value) (l : List Int) (w : World) (hv : Ints w v l) :
    Calls Tryz.prog 99 #[v] w fun e w' => e = .returned (.bool (bad3 l)) ∧ w = w' := by
  have hl := hv.run_len (P := Tryz.prog) slInts
  clear hv
  go_enter Tryz.func99, Tryz.ntmps99
  go_wp2_with fail
  go_ret
  exact ⟨rfl, rfl⟩
set_option maxRecDepth 100000 in
set_option maxHeartbeats 1000000 in
theorem ckindex_any (v : Value) (T : List (List Int)) (R : Nat → Value) (w : World) (hv : RwsAt w v T R) :
    Calls Tryz.prog 69 #[v, .func (Fn.func 99) #[] #[]] w (RdI w fun r => decide (0 ≤ r) = T.any bad3) := by
  have hl := hv.run_len (P := Tryz.prog) slRows
  have hlen := hv.len
  have HV := Lib.hid hv; clear hv
  go_enter Tryz.func69, Tryz.ntmps69
  go_wp2
  go_loop [5, 8] (fun _ x8 => ∃ i : Nat, i ≤ T.length ∧ x8 = .int .i64 i ∧ Hid (∀ j, j < i → bad3 (nthL T j) = false)) (fun _ x8 => T.length - (intOf x8).toNat)
  case atStart => exact ⟨0, Nat.zero_le _, rfl, Lib.hid (fun j hj => by omega)⟩
  case round =>
    obtain ⟨i, hi, rfl, H⟩ := hrel
    by_cases hlt : i < T.length
    · have hix := HV.out.run_index (P := Tryz.prog) slRows i hlt
      have hcell := HV.out.cell i hlt
      cases he : bad3 (nthL T i) with
      | false =>
        have HE := Lib.hid he; clear he
        go_wp2_with (go_at_call 99; refine (ck3_any _ _ _ (HV.out.row i hlt)).mono ?_; rw [HE.out]; rintro e w' ⟨rfl, rfl⟩)
        go_round
        case rel => exact ⟨i + 1, by omega, by go_num, Lib.hid (fun j hj => by
            rcases Nat.lt_or_eq_of_le (show j ≤ i by omega) with h | rfl
            · exact H.out j h
            · exact HE.out)⟩
        case measure => simp [intOf]; omega
      | true =>
        have HE := Lib.hid he; clear he
        have HA := Lib.hid (show T.any bad3 = true from List.any_eq_true.2 ⟨_, nthL_mem hlt, HE.out⟩)
        go_wp2_with (go_at_call 99; refine (ck3_any _ _ _ (HV.out.row i hlt)).mono ?_; rw [HE.out]; rintro e w' ⟨rfl, rfl⟩)
        go_ret
        exact ⟨i, by rw [HA.out]; simp, rfl, 0, rfl⟩
    · obtain rfl : i = T.length := by omega
      have HA := Lib.hid (show T.any bad3 = false by
        rw [List.any_eq_false]
        intro l hl
        obtain ⟨j, hj, rfl⟩ := List.getElem_of_mem hl
        have := H.out j hj
        rw [nthL_eq hj] at this; simp [this])
      go_wp2_with fail
      go_ret
      exact ⟨-1, by rw [HA.out]; rfl, rfl, 0, rfl⟩
theorem ckcontains_any (v : Value) (T : List (List Int)) (R : Nat → Value) (w : World) (hv : RwsAt w v T R) :
    Calls Tryz.prog 26 #[v, .func (Fn.func 99) #[] #[]] w (Rd w (.bool (T.any bad3))) := by
  have HV := Lib.hid hv; clear hv
  go_enter Tryz.func26, Tryz.ntmps26
  go_wp2_with (go_at_call 69; refine (ckindex_any _ _ _ _ HV.out).mono ?_; rintro e w' ⟨r, hr, rfl, m, rfl⟩; have HR := Lib.hid hr; clear hr)
  go_ret
  exact .more _ (ret_bool HR.out)
end Go.Proofs.YtaajjaadlpgbiaaGreatDoor
end
section
namespace Go.Att
open Go.RowKit
/-- The point and the chain at the beginning. -/
noncomputable def ckZ (p : Int) (k : Nat) (wd : Int) (Ls : List (List Tri)) (outs : List Int) : List Int := drwL p k (begS p k wd Ls outs) (wideOf (nthY Ls (Ls.length - 1)).length).toNat
noncomputable def ckD (p : Int) (k : Nat) (wd : Int) (Ls : List (List Tri)) (outs : List Int) : List Int := drwS p k (begS p k wd Ls outs) (wideOf (nthY Ls (Ls.length - 1)).length).toNat
/-- Is it shown? -/
noncomputable def ckAll (p : Int) (k : Nat) (wd : Int) (Ls : List (List Tri)) (outs : List Int) (U : List (List (List Int))) (V : List (List Int)) : Bool :=
  decide (cirErr wd Ls = 0) && chkB p k wd Ls outs U V (ckZ p k wd Ls outs) (ckD p k wd Ls outs)
/-- The point, the claim, the chain at the end. -/
noncomputable def ckEnd (p : Int) (k : Nat) (wd : Int) (Ls : List (List Tri)) (outs : List Int) (U : List (List (List Int))) (V : List (List Int)) : List Int × Int × List Int :=
  chS p k wd Ls U V (ckZ p k wd Ls outs) (ext outs (ckZ p k wd Ls outs) % p) (ckD p k wd Ls outs) Ls.length
/-- What Check gives. -/
def CkGot (b : Bool) (z : List Int) (c : Int) (u : Value) (w' : World) : Prop :=
  (b = false ∧ u = .tuple #[.slice none 0 0, .int .i64 0, .bool false]) ∨ (b = true ∧ ∃ vz, u = .tuple #[vz, .int .i64 c, .bool true] ∧ Ints w' vz z)
theorem ckAll_err {p : Int} {k : Nat} {wd : Int} {Ls : List (List Tri)} {outs : List Int} {U : List (List (List Int))} {V : List (List Int)} (h : cirErr wd Ls ≠ 0) : ckAll p k wd Ls outs U V = false := by unfold ckAll; rw [decide_eq_false h]; rfl
theorem ckAll_len {p : Int} {k : Nat} {wd : Int} {Ls : List (List Tri)} {outs : List Int} {U : List (List (List Int))} {V : List (List Int)} (h : ¬ (outs.length = (nthY Ls (Ls.length - 1)).length ∧ U.length = Ls.length ∧ V.length = Ls.length)) : ckAll p k wd Ls outs U V = false := by
  unfold ckAll chkB
  by_cases h1 : outs.length = (nthY Ls (Ls.length - 1)).length
  · by_cases h2 : U.length = Ls.length
    · by_cases h3 : V.length = Ls.length
      · exact absurd ⟨h1, h2, h3⟩ h
      · rw [decide_eq_false h3]; simp
    · rw [decide_eq_false h2]; simp
  · rw [decide_eq_false h1]; simp
theorem ckAll_in {p : Int} {k : Nat} {wd : Int} {Ls : List (List Tri)} {outs : List Int} {U : List (List (List Int))} {V : List (List Int)} (h0 : cirErr wd Ls = 0) (h1 : outs.length = (nthY Ls (Ls.length - 1)).length) (h2 : U.length = Ls.length) (h3 : V.length = Ls.length) :
    ckAll p k wd Ls outs U V = chA p k wd Ls U V (ckZ p k wd Ls outs) (ext outs (ckZ p k wd Ls outs) % p) (ckD p k wd Ls outs) Ls.length := by
  unfold ckAll chkB
  rw [decide_eq_true h0, decide_eq_true h1, decide_eq_true h2, decide_eq_true h3]; rfl
end Go.Att
end
section
/-! Are two lists the same? Contract. -/
namespace Go.Att
theorem list_eq_of {a b : List Int} (h : a.length = b.length) (h2 : ∀ i, i < a.length → nth a i = nth b i) : a = b := by
  refine List.ext_getElem h fun i h3 h4 => ?_
  have := h2 i h3
  rwa [nth_eq h3, nth_eq h4] at this
end Go.Att
namespace Go.Proofs.YtaajjaadlpgbiaaGreatDoor
open Go.RowKit Go.Att
set_option maxRecDepth 100000 in
set_option maxHeartbeats 1000000 in
theorem sints_any (va vb : Value) (a b : List Int) (w : World) (ha : Ints w va a) (hb : Ints w vb b) :
    Calls Tryz.prog 12 #[va, vb] w (Rd w (.bool (decide (a = b)))) := by
  have hla := ha.run_len (P := Tryz.prog) slInts
  have hlb := hb.run_len (P := Tryz.prog) slInts
  have hlen := ha.len
  have HA := Lib.hid ha; have HB := Lib.hid hb; clear ha hb
  by_cases hl : a.length = b.length
  · have hbb : ((a.length : Int) != (b.length : Int)) = false := by rw [bne_eq_false_iff_eq]; omega
    have HL := Lib.hid hl; clear hl
    go_enter Tryz.func12, Tryz.ntmps12
    go_wp2_with fail
    go_loopw [5] (fun x5 wr => ∃ i m : Nat, i ≤ a.length ∧ x5 = .int .i64 i ∧ Hid (∀ j, j < i → nth a j = nth b j) ∧ wr = w.drewN m) (fun x5 _ => a.length - (intOf x5).toNat)
    case atStart => exact ⟨0, 0, Nat.zero_le _, rfl, Lib.hid (fun j hj => by omega), rfl⟩
    case round =>
      obtain ⟨i, m, hi, rfl, H, rfl⟩ := hrel
      by_cases hil : i < a.length
      · have hix := HA.out.run_index (P := Tryz.prog) slInts i hil
        have hc := HA.out.cell i hil
        have hix2 := HB.out.run_index (P := Tryz.prog) slInts i (by have := HL.out; omega)
        have hc2 := HB.out.cell i (by have := HL.out; omega)
        by_cases he : nth a i = nth b i
        · have hb2 : (nth a i != nth b i) = false := by rw [bne_eq_false_iff_eq]; exact he
          have HE := Lib.hid he; clear he
          go_wp2_with fail
          go_quiet (fail)
          go_wp2_with fail
          go_roundw
          case rel => exact ⟨i + 1, _, by omega, by go_num, Lib.hid (fun j hj => by
            rcases Nat.lt_or_eq_of_le (show j ≤ i by omega) with h | rfl
            · exact H.out j h
            · exact HE.out), rfl⟩
          case measure => simp [intOf]; omega
        · have hb2 : (nth a i != nth b i) = true := by rw [bne_iff_ne]; exact he
          have HD := Lib.hid (decide_eq_false (p := a = b) (fun e => he (by rw [e]))); clear he
          go_wp2_with fail
          go_quiet (fail)
          go_wp2_with fail
          go_ret
          exact ⟨ret_bool HD.out.symm, _, World.drewN_drewN _ _ _⟩
      · obtain rfl : i = a.length := by omega
        have HD := Lib.hid (decide_eq_true (p := a = b) (list_eq_of HL.out H.out))
        go_wp2_with fail
        go_ret
        exact .more _ (ret_bool HD.out.symm)
  · have hbb : ((a.length : Int) != (b.length : Int)) = true := by rw [bne_iff_ne]; omega
    have HD := Lib.hid (decide_eq_false (p := a = b) (fun e => hl (by rw [e]))); clear hl
    go_enter Tryz.func12, Tryz.ntmps12
    go_wp2_with fail
    go_ret
    exact .same (ret_bool HD.out.symm)
theorem sints_q {va vb : Value} {a b : List Int} {w : World} {c : Bool} (ha : Ints w va a) (hb : Ints w vb b) (hc : decide (a = b) = c) (n : Nat) :
    Calls Tryz.prog 12 #[va, vb] (w.drewN n) fun e w'' => e = .returned (.bool c) ∧ ∃ m, w'' = w.drewN m := by
  subst hc
  exact Calls.quiet_of (sints_any _ _ _ _ _ (ha.drewN n) (hb.drewN n))
end Go.Proofs.YtaajjaadlpgbiaaGreatDoor
/-! Are two lists of lists the same? Contract. -/
namespace Go.Att
theorem lists_eq_of {a b : List (List Int)} (h : a.length = b.length) (h2 : ∀ i, i < a.length → nthL a i = nthL b i) : a = b := by
  refine List.ext_getElem h fun i h3 h4 => ?_
  have := h2 i h3
  rwa [nthL_eq h3, nthL_eq h4] at this
end Go.Att
namespace Go.Proofs.YtaajjaadlpgbiaaGreatDoor
open Go.RowKit Go.Att
theorem slRows2 : SlT Tryz.prog 22 23 1 24 (.slice none 0 0) := .mk' Tryz.underlying22 (by kernel_rfl) (by decide)
end Go.Proofs.YtaajjaadlpgbiaaGreatDoor
end
section
namespace Go.Att
open Go.RowKit
structure CubAt (w : World) (v : Value) (L : List (List (List Int))) (Q : Nat → Value) : Prop where
  sl : Sl w 1 v L.length ((List.range L.length).map Q)
  row : ∀ i, i < L.length → Rws w (Q i) (nthC L i)
theorem Cub.at' {w : World} {v : Value} {L : List (List (List Int))} (h : Cub w v L) : ∃ Q, CubAt w v L Q := let ⟨Q, h1, h2⟩ := h; ⟨Q, h1, h2⟩
section
variable {P : Program} {w : World} {v : Value} {l : List (List (List Int))} {Q : Nat → Value}
theorem CubAt.ext {w' : World} (h : CubAt w v l Q) (hx : Ext w w') : CubAt w' v l Q := ⟨h.sl.ext hx, fun i hi => (h.row i hi).ext hx⟩
theorem CubAt.cell (h : CubAt w v l Q) (i : Nat) (hi : i < l.length) : w.cell? (elt v i 1) = some (Q i) := by
  have := Sl.cell h.sl i 0 hi (by omega)
  simp [Addr.add] at this
  rw [this]; simp [hi]
theorem CubAt.run_index (h : CubAt w v l Q) {t e bytes : Nat} {z : Value} (ht : SlT P t e 1 bytes z) (i : Nat) (hi : i < l.length) (w' : World) :
    (Instr.indexAt t v (.int .i64 i)).run P w' = .ok (.pointer (some (elt v i 1))) w' := Sl.run_index h.sl ht i (by omega) (by omega) w'
end
theorem Rws.drewN {w : World} {v : Value} {l : List (List Int)} (h : Rws w v l) (n : Nat) : Rws (w.drewN n) v l := h.ext (Ext.drewN _ _)
theorem Cub.nil (w : World) : Cub w (.slice none 0 0) [] := ⟨fun _ => undef, Ints.nil w, fun i hi => by simp at hi⟩
end Go.Att
namespace Go.Proofs.YtaajjaadlpgbiaaGreatDoor
open Go.RowKit Go.Att
theorem slCubB : SlT Tryz.prog 49 22 1 24 (.slice none 0 0) := .mk' Tryz.underlying49 (by kernel_rfl) (by decide)
end Go.Proofs.YtaajjaadlpgbiaaGreatDoor
end
section
namespace Go.Att
open Go.RowKit Go.ChangeShapes Go.WideShapes Go.Deep
section
variable {H : Type} {enc : TypeId × Value → H} {P : Program} {w : World} {base : Nat} {spare : Nat → Bool} {held : Bool}
theorem open_CubF {fuel : Nat} {t e q r : TypeId} {v : Value} {d : DataW H} {p : List MemPlace} (ht : P.underlying t = some (.slice e)) (he : P.underlying e = some (.slice q)) (hq : P.underlying q = some (.slice r)) (hr : P.underlying r = some (.int .i64)) (ce : P.cellsOf e = 1) (cq : P.cellsOf q = 1) (cr : P.cellsOf r = 1)
    (hf : DataW.trod enc P w base spare held fuel t [v] = some (d, p)) : ∃ L : List (List (List Int)), Cub w v L := by
  rcases open_slice1 ht ce hf with ⟨h1, h2⟩ | ⟨a, len, cap, m, n, V, D, Pl, h1, h2, h3, h4, h5, h6, h7⟩
  · simp at h1
    subst h1
    exact ⟨[], fun _ => undef, Ints.nil w, fun i hi => by simp at hi⟩
  · simp at h1 h6
    subst h1
    have hlm : len ≤ m := by rw [h5]; split <;> omega
    have each : ∀ i, i < m → ∃ l : List (List Int), Rws w (V i) l := fun i hi => let ⟨l, h8, _⟩ := open_RwsF he hq hr cq cr (h7 i hi).2; ⟨l, h8⟩
    have choose : ∃ f : Nat → List (List Int), ∀ i, i < m → Rws w (V i) (f i) := by
      refine ⟨fun i => if h : i < m then Classical.choose (each i h) else [], fun i hi => ?_⟩
      have e : (if h : i < m then Classical.choose (each i h) else []) = Classical.choose (each i hi) := dif_pos hi
      simp only [e]; exact Classical.choose_spec (each i hi)
    obtain ⟨f, hf2⟩ := choose
    refine ⟨(List.range len).map f, V, ⟨some a, cap, ?_, ?_, ?_, h4, fun i hi => ?_⟩, fun i hi => ?_⟩
    · simp
    · simp
    · simpa using h3
    · simp at hi
      have hsp : a.spot = none := spot_none (by have := (h7 0 (by omega)).1; rw [Addr.add, if_pos rfl] at this; exact this)
      refine ⟨a.block, a.off, by rcases a with ⟨b, o, s⟩; simp at hsp; subst hsp; rfl, ?_⟩
      have := (h7 i (by omega)).1
      rw [addr_lit hsp] at this
      rw [this]; simp
    · simp at hi
      have e2 : nthC ((List.range len).map f) i = f i := by simp [nthC, hi]
      rw [e2]; exact hf2 i (by omega)
/-- A struct of the two. -/
theorem open_Layd {t t0 e q r : TypeId} {g0 g1 : Field} {cs : Array Value} {d : DataW H} {p : List MemPlace} (ht : P.underlying t = some (.struct #[g0, g1])) (o0 : g0.offset = 0) (o1 : g1.offset = 1) (c0 : P.cellsOf g0.type = 1) (c1 : P.cellsOf g1.type = 1)
    (t0' : g0.type = t0) (t1' : g1.type = e) (h0 : P.underlying t0 = some (.slice e)) (he : P.underlying e = some (.slice q)) (hq : P.underlying q = some (.slice r)) (hr : P.underlying r = some (.int .i64)) (ce : P.cellsOf e = 1) (cq : P.cellsOf q = 1) (cr : P.cellsOf r = 1)
    (hs : cs.size = 2) (hv : (Value.agg cs).cells.toList = cs.toList) (h : DataW.Trod enc P w base spare held t (.agg cs) d p) :
    ∃ (a b : Value) (U : List (List (List Int))) (V : List (List Int)), cs = #[a, b] ∧ Cub w a U ∧ Rws w b V := by
  obtain ⟨fuel, hf⟩ := h
  rw [hv] at hf
  obtain ⟨xs, k, hk, hxy, _, hxl, hff⟩ := DataW.trod_struct ht hf
  obtain ⟨a, b, rfl⟩ : ∃ a b, cs = #[a, b] := by
    rcases cs with ⟨l⟩
    match l, hs with
    | [a, b], _ => exact ⟨a, b, rfl⟩
  match xs, hxl with
  | [y0, y1], _ =>
    have e0 := hff 0 g0 rfl
    have e1 := hff 1 g1 rfl
    simp [o0, o1, c0, c1] at e0 e1
    rw [t0'] at e0
    rw [t1'] at e1
    obtain ⟨U, hU⟩ := open_CubF h0 he hq hr ce cq cr e0
    obtain ⟨V, hV, _⟩ := open_RwsF he hq hr cq cr e1
    exact ⟨a, b, U, V, rfl, hU, hV⟩
end
end Go.Att
end
