/- What a table is at a point, the program's side: Extend. A circuit of one gate, built in place. -/
import Derived.Test.YthlnjfnlhgnblaaDoorP6
namespace Go.Att
open Go.RowKit
theorem ext_end (p : Int) (t at_ : List Int) (k : Nat) (hl : t.length = 2 ^ k) (hla : at_.length = k) : fof p (nth (fixAll p t at_) 0) = ext t at_ % p := by
  have := half_is p t at_ k 0 (by omega) hl
  rw [hla, Nat.sub_self] at this
  simpa [bitsL, fof] using this
/-- A circuit of one gate that multiplies. -/
def oneC : List (List Tri) := [[(1, 0, 0)]]
theorem oneC_err : cirErr 0 oneC = 0 := by
  refine cirErr_zero ⟨by decide, by decide, by decide, by decide, fun i hi => ?_⟩ fun i hi k hk => ?_
  · have : i = 0 := by simp [oneC] at hi; exact hi
    subst this; decide
  · have : i = 0 := by simp [oneC] at hi; exact hi
    subst this
    have : k = 0 := by simp [oneC, nthY] at hk; exact hk
    subst this
    simp [gateOk, oneC, nthY, nthT, below]
theorem oneC_walk : walkErr 0 oneC ([1] : List Int).length = 0 := by unfold walkErr; rw [if_pos oneC_err]; rfl
theorem oneC_row {p : Int} (hp : 2 ≤ p) : vrow p oneC [1] 1 = [1] := by
  have h1 : (1 : Int) % p = 1 := one_mod hp
  simp [vrow, oneC, nthY, gval, nth, fmul, fof, h1]
theorem lys_one (w : World) (tg tl : TypeId) : LysAt ((w.alloc (Obj.cells #[.int .i64 1, .int .i64 0, .int .i64 0] tg)).alloc (Obj.cells #[.slice (some ⟨w.heap.size, 0, none⟩) 1 1] tl)) (.slice (some ⟨w.heap.size + 1, 0, none⟩) 1 1) oneC (fun _ => .slice (some ⟨w.heap.size, 0, none⟩) 1 1) := by
  refine ⟨⟨_, _, rfl, rfl, Nat.le_refl _, by unfold maxLen; omega, fun i hi => ?_⟩, fun i hi => ?_⟩
  · have h0 : i = 0 := by simpa [oneC] using hi
    subst h0
    have := cell_new (w.alloc (Obj.cells #[.int .i64 1, .int .i64 0, .int .i64 0] tg)) #[.slice (some ⟨w.heap.size, 0, none⟩) 1 1] tl 0
    have hs : (w.alloc (Obj.cells #[.int .i64 1, .int .i64 0, .int .i64 0] tg)).heap.size = w.heap.size + 1 := by simp
    rw [hs] at this
    exact ⟨_, _, rfl, this⟩
  · have h0 : i = 0 := by simpa [oneC] using hi
    subst h0
    have hx := Ext.alloc (w.alloc (Obj.cells #[.int .i64 1, .int .i64 0, .int .i64 0] tg)) (Obj.cells #[.slice (some ⟨w.heap.size, 0, none⟩) 1 1] tl)
    refine Trs.ext (w := w.alloc (Obj.cells #[.int .i64 1, .int .i64 0, .int .i64 0] tg)) ⟨_, _, rfl, rfl, Nat.le_refl _, by unfold maxLen; omega, fun j hj => ?_⟩ hx
    have h3 : j = 0 ∨ j = 1 ∨ j = 2 := by simp [flatT, oneC, nthY] at hj; omega
    rcases h3 with rfl | rfl | rfl
    · exact ⟨_, _, rfl, cell_new w #[.int .i64 1, .int .i64 0, .int .i64 0] tg 0⟩
    · exact ⟨_, _, rfl, cell_new w #[.int .i64 1, .int .i64 0, .int .i64 0] tg 1⟩
    · exact ⟨_, _, rfl, cell_new w #[.int .i64 1, .int .i64 0, .int .i64 0] tg 2⟩
theorem own_grown {w w' : World} {B e sz n : Nat} {v : Value} {xs : List Value} {r : Option Nat} (h : w.ownsRow B e sz v n xs) (hg : w.grownBy w' r) (hne : ∀ k, v.ownBlock = some k → some k ≠ r) : w'.ownsRow B e sz v n xs := by
  refine ⟨h.1, ?_⟩
  rcases h.2 with h2 | ⟨g, cap, cur, hv, hb, hgt, hr⟩
  · exact .inl h2
  · exact .inr ⟨g, cap, cur, hv, hb, by rw [hg.block g (Array.getElem?_eq_some_iff.1 hgt).1 (hne g (by rw [hv]; rfl))]; exact hgt, hr⟩
theorem ints_cs (l : List Int) : ∀ u ∈ l.map (Value.int .i64), u.oneCell' = true := by
  intro u hu; obtain ⟨x, -, rfl⟩ := List.mem_map.1 hu; rfl
/-- A list of one number, built in place. -/
theorem ints_lit (w : World) (x : Int) (ti : TypeId) : Ints (w.alloc (Obj.cells #[.int .i64 x] ti)) (.slice (some ⟨w.heap.size, 0, none⟩) 1 1) [x] := by
  refine ⟨_, _, rfl, rfl, Nat.le_refl _, by unfold maxLen; omega, fun i hi => ?_⟩
  have h0 : i = 0 := by simpa using hi
  subst h0
  exact ⟨_, _, rfl, cell_new w #[.int .i64 x] ti 0⟩
end Go.Att
namespace Go.Att
open Go.RowKit
theorem partR_bad {p wd : Int} {Ls : List (List Tri)} {inp z xs : List Int} {layer E : Int} (h : partErr wd Ls inp.length layer z.length xs.length = E) (hE : E ≠ 0) : partR p wd Ls inp layer z xs = 0 := by unfold partR; rw [h, if_neg hE]
theorem partR_ok {p wd : Int} {Ls : List (List Tri)} {inp z xs : List Int} {i : Nat} (h : partErr wd Ls inp.length i z.length xs.length = 0) : partR p wd Ls inp i z xs = partV p wd Ls inp i z xs := by unfold partR; rw [if_pos h, Int.toNat_natCast]
theorem gval_gop (p : Int) (row : List Int) (g : Tri) : gval p row g = gop g.1 (nth row g.2.1.toNat) (nth row g.2.2.toNat) % p := by
  unfold gval gop; split <;> rfl
theorem nth_map_tri (f : Tri → Int) (l : List Tri) (k : Nat) (h : k < l.length) : nth (l.map f) k = f (nthT l k) := by
  rw [nthT_eq h]; simp [nth, h]
/-- A layer is the sum over its wires. -/
theorem layer_sum {p wd : Int} {Ls : List (List Tri)} {inp : List Int} (hE : cirErr wd Ls = 0) (hin : (inp.length : Int) = 2 ^ wd.toNat) {i : Nat} (hi : i < Ls.length) (z : List Int) : partV p wd Ls inp i z [] = ext (vrow p Ls inp (i + 1)) z % p := by
  have hbd := beneath_bd (cirErr_ok hE).1 hi
  obtain ⟨n, hn⟩ := Int.eq_ofNat_of_zero_le hbd.1
  have hbp := below_pow (cirErr_ok hE).1 hi
  rw [hn, Int.toNat_natCast] at hbp
  unfold partV
  rw [hn, Int.toNat_natCast]
  refine partS_nil p (nthY Ls i) n (vrow p Ls inp i) z (vrow p Ls inp (i + 1)) (vrow_two hE hin hi hn) (fun k hk => ?_) (by simp [vrow]) (fun k hk => ?_)
  · have hok := (cirErr_ok hE).2 i hi k hk
    rw [hbp] at hok
    obtain ⟨o1, o2, o3, o4, o5, o6⟩ := hok
    have e1 : ((2 ^ n : Nat) : Int) = (2 : Int) ^ n := by simp
    show (nthT (nthY Ls i) k).2.1.toNat < 2 ^ n ∧ (nthT (nthY Ls i) k).2.2.toNat < 2 ^ n
    omega
  · show nth ((nthY Ls i).map (gval p (vrow p Ls inp i))) k = _
    rw [nth_map_tri _ _ _ hk, gval_gop]; rfl
/-- What a variable makes of it. -/
theorem layer_snoc (p wd : Int) (Ls : List (List Tri)) (inp : List Int) (i : Nat) (z xs : List Int) (h : (xs.length : Int) < 2 * beneath wd Ls i) : partV p wd Ls inp i z xs = fadd p (partV p wd Ls inp i z (xs ++ [0])) (partV p wd Ls inp i z (xs ++ [1])) := by
  unfold partV
  rw [partS_snoc _ _ _ _ _ _ (by omega)]
  simp only [fadd, ea_l, ea_r]
end Go.Att
namespace Go.Proofs.YthlnjfnlhgnblaaDoor
open Go.RowKit Go.Att
section
variable {w : World} {f : Value} {p g : Int} {fs : List Int}
end
end Go.Proofs.YthlnjfnlhgnblaaDoor
