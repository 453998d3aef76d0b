/- A voucher is written as bytes: contract. -/
import Derived.Test.YthpgmjdepigihaaDoorY4
namespace Go.Att
open Go.RowKit
/-- A slice with nothing behind it. -/
def clipV (v : Value) (n : Nat) : Value := match v with
  | .slice a _ _ => .slice a n n
  | v => v
theorem Sl.run_clip {P : Program} {w : World} {sz n : Nat} {v : Value} {cs : List Value} (h : Sl w sz v n cs) {t e bytes : Nat} {z : Value} (ht : SlT P t e sz bytes z) (w' : World) :
    (Instr.sliceAt t v none (some (.int .i64 n)) (some (.int .i64 n))).run P w' = .ok (clipV v n) w' := by
  obtain ⟨ao, cap, rfl, h2, h3, h4, h5⟩ := h
  have hu : P.underlying t = some (.slice (P.elem t)) := by rw [ht.und, elem_of ht.und]
  have ha : ∀ a : Addr, a.add 0 = a := fun a => by unfold Addr.add; simp
  rw [run_sliceAt_slice (h := hu), run_slice_any (ht := hu)]
  simp only [elem_of ht.und, ht.run_size]
  have h3' : (n : Int) ≤ (cap : Int) := by omega
  cases ao <;> simp [Instr.sliceBounds, run_sliceBound, h3', Result.andThen, sliced, clipV, ha, h3]
theorem Sl.clip {w : World} {sz n : Nat} {v : Value} {cs : List Value} (h : Sl w sz v n cs) : Sl w sz (clipV v n) n cs := by
  obtain ⟨ao, cap, rfl, h2, h3, h4, h5⟩ := h
  exact ⟨ao, n, rfl, h2, Nat.le_refl _, Nat.le_trans h3 h4, h5⟩
/-- What a voucher's parts read as. -/
structure VchAt (w : World) (m a : Value) (r l o ra rb rc la lb lc : Value) (v : Vch) : Prop where
  main : Ints w m v.main
  aux : Ints w a v.aux
  roots : Rws w r v.roots
  last : Ints w l v.last
  opens : Opns w o v.opens
  rows : OpnAt w ra rb rc v.rows
  fin : OpnAt w la lb lc v.fin
theorem VchAt.ext {w w' : World} {m a r l o ra rb rc la lb lc : Value} {v : Vch} (h : VchAt w m a r l o ra rb rc la lb lc v) (hx : Ext w w') : VchAt w' m a r l o ra rb rc la lb lc v :=
  ⟨h.main.ext hx, h.aux.ext hx, h.roots.ext hx, h.last.ext hx, h.opens.ext hx, h.rows.ext hx, h.fin.ext hx⟩
/-- A block's cells, whatever is grown elsewhere. -/
theorem grown_cells {w w' : World} {b : Nat} {cs : Array Value} {bo : Option Nat} (h : ∀ i, w.cell? ⟨b, i, none⟩ = cs[i]?) (hb : b < w.heap.size) (hg : w.grownBy w' bo) (hne : some b ≠ bo) : ∀ i, w'.cell? ⟨b, i, none⟩ = cs[i]? := fun i => by
  rw [World.cell?_of_block (a := ⟨b, i, none⟩) (hg.block b hb hne)]; exact h i
theorem own_neb {W0 W : World} {e : TypeId} {v : Value} {l : List Int} (h : OwnB W0 W e v l) {b : Nat} (hb : b < W0.heap.size) : some b ≠ v.ownBlock := fun hc => by
  have := (h.lt b hc.symm).1
  omega
def BytsGot (l : List Int) (v : Value) (w' : World) : Prop := Byts w' v l
end Go.Att
namespace Go.Proofs.YthpgmjdepigihaaDoor
open Go.RowKit Go.Att
set_option maxRecDepth 100000 in
theorem clipb_any {w : World} {v : Value} {l : List Int} (h : Byts w v l) : Calls Tryd.prog 39 #[v] w fun e w' => e = .returned (clipV v l.length) ∧ w = w' := by
  have hll := Sl.run_len (P := Tryd.prog) h slByts
  have hcl := Sl.run_clip (P := Tryd.prog) h slByts
  go_enter Tryd.func39, Tryd.ntmps39
  go_wp2
  go_ret
  exact ⟨rfl, rfl⟩

set_option maxRecDepth 100000 in
set_option maxHeartbeats 4000000 in
theorem bytes_any {w : World} {m a r l o ra rb rc la lb lc : Value} {v : Vch} (hA : VchAt w m a r l o ra rb rc la lb lc v) (hV : VcV v) (hb : (encV v).length ≤ 4294967296) :
    Calls Tryd.prog 9 #[.agg #[m, a, .int .i64 v.tries, r, l, o, ra, rb, rc, la, lb, lc]] w (Gives w (BytsGot (encV v))) := by
  obtain ⟨v1, v2, v3, v4, v5, v6, v7, v8⟩ := hV
  obtain ⟨s1, hs1⟩ : ∃ x, encIs v.main = x := ⟨_, rfl⟩
  obtain ⟨s2, hs2⟩ : ∃ x, s1 ++ encIs v.aux = x := ⟨_, rfl⟩
  obtain ⟨s3, hs3⟩ : ∃ x, s2 ++ encI v.tries = x := ⟨_, rfl⟩
  obtain ⟨s4, hs4⟩ : ∃ x, s3 ++ encRs v.roots = x := ⟨_, rfl⟩
  obtain ⟨s5, hs5⟩ : ∃ x, s4 ++ encIs v.last = x := ⟨_, rfl⟩
  obtain ⟨s6, hs6⟩ : ∃ x, s5 ++ encOs v.opens = x := ⟨_, rfl⟩
  obtain ⟨s7, hs7⟩ : ∃ x, s6 ++ encO v.rows = x := ⟨_, rfl⟩
  obtain ⟨s8, hs8⟩ : ∃ x, s7 ++ encO v.fin = x := ⟨_, rfl⟩
  have hE : encV v = s8 := by unfold encV; rw [hs1, hs2, hs3, hs4, hs5, hs6, hs7, hs8]
  rw [hE] at hb ⊢
  have e1 : s1.length = (encIs v.main).length := by rw [← hs1]
  have e2 : s2.length = s1.length + (encIs v.aux).length := by rw [← hs2, List.length_append]
  have e3 : s3.length = s2.length + (encI v.tries).length := by rw [← hs3, List.length_append]
  have e4 : s4.length = s3.length + (encRs v.roots).length := by rw [← hs4, List.length_append]
  have e5 : s5.length = s4.length + (encIs v.last).length := by rw [← hs5, List.length_append]
  have e6 : s6.length = s5.length + (encOs v.opens).length := by rw [← hs6, List.length_append]
  have e7 : s7.length = s6.length + (encO v.rows).length := by rw [← hs7, List.length_append]
  have e8 : s8.length = s7.length + (encO v.fin).length := by rw [← hs8, List.length_append]
  have b1 : ([] : List Int).length + (encIs v.main).length ≤ 4294967296 := by simp only [List.length_nil]; omega
  have b2 : s1.length + (encIs v.aux).length ≤ 4294967296 := by omega
  have b3 : s2.length + (encI v.tries).length ≤ 4294967296 := by omega
  have b4 : s3.length + (encRs v.roots).length ≤ 4294967296 := by omega
  have b5 : s4.length + (encIs v.last).length ≤ 4294967296 := by omega
  have b6 : s5.length + (encOs v.opens).length ≤ 4294967296 := by omega
  have b7 : s6.length + (encO v.rows).length ≤ 4294967296 := by omega
  have b8 : s7.length + (encO v.fin).length ≤ 4294967296 := by omega
  clear e1 e2 e3 e4 e5 e6 e7 e8
  have V1 : Hid (∀ x ∈ v.main, I64 x) := Lib.hid v1.2
  have V2 : Hid (∀ x ∈ v.aux, I64 x) := Lib.hid v2.2
  have V4 : Hid (∀ x ∈ v.roots, IsV x) := Lib.hid v4.2
  have V5 : Hid (∀ x ∈ v.last, I64 x) := Lib.hid v5.2
  have V6 : Hid (∀ x ∈ v.opens, OpV x) := Lib.hid v6.2
  clear v1 v2 v4 v5 v6
  have HS1 := Lib.hid hs1; have HS2 := Lib.hid hs2; have HS3 := Lib.hid hs3; have HS4 := Lib.hid hs4; have HS5 := Lib.hid hs5; have HS6 := Lib.hid hs6; have HS7 := Lib.hid hs7; have HS8 := Lib.hid hs8
  have B1 := Lib.hid b1; have B2 := Lib.hid b2; have B3 := Lib.hid b3; have B4 := Lib.hid b4; have B5 := Lib.hid b5; have B6 := Lib.hid b6; have B7 := Lib.hid b7; have B8 := Lib.hid b8
  have hal := Ext.alloc w (Obj.cells #[m, a, .int .i64 v.tries, r, l, o, ra, rb, rc, la, lb, lc] 30)
  have KK := Lib.hid (cell_new w #[m, a, .int .i64 v.tries, r, l, o, ra, rb, rc, la, lb, lc] 30)
  have hsz : w.heap.size < (w.alloc (Obj.cells #[m, a, .int .i64 v.tries, r, l, o, ra, rb, rc, la, lb, lc] 30)).heap.size := by simp
  have HA := Lib.hid (hA.ext hal)
  have c0 : (w.alloc (Obj.cells #[m, a, .int .i64 v.tries, r, l, o, ra, rb, rc, la, lb, lc] 30)).cell? ⟨w.heap.size, 0, none⟩ = some m := KK.out 0
  clear hs1 hs2 hs3 hs4 hs5 hs6 hs7 hs8 hE hb b1 b2 b3 b4 b5 b6 b7 b8 hA
  go_enter Tryd.func9, Tryd.ntmps9
  go_wp2_with fail
  generalize w.alloc (Obj.cells #[m, a, .int .i64 v.tries, r, l, o, ra, rb, rc, la, lb, lc] 30) = W0 at *
  generalize w.heap.size = b at *
  (with_reducible refine (wnums_any W0 _ (Ext.refl W0) _ _ (World.ownsRow_nil _ _ _ _) m v.main HA.out.main V1.out B1.out).mono ?_)
  rintro _ w1 ⟨u1, rfl, HX1, HO1, HG1, -⟩
  rw [List.nil_append, HS1.out] at HO1
  have KK1 := Lib.hid (grown_cells KK.out hsz HG1 (by simp [Value.ownBlock]))
  have HN1 := Lib.hid (own_neb HO1 hsz)
  have c1 : w1.cell? ⟨b, 1, none⟩ = some a := KK1.out 1
  clear HG1 c0
  go_wp2_with fail
  (with_reducible refine (wnums_any W0 _ HX1 u1 _ HO1 a v.aux HA.out.aux V2.out B2.out).mono ?_)
  rintro _ w2 ⟨u2, rfl, HX2, HO2, HG2, -⟩
  rw [HS2.out] at HO2
  have KK2 := Lib.hid (grown_cells KK1.out (Nat.lt_of_lt_of_le hsz HX1.size) HG2 HN1.out)
  have HN2 := Lib.hid (own_neb HO2 hsz)
  have c2 : w2.cell? ⟨b, 2, none⟩ = some (.int .i64 v.tries) := KK2.out 2
  clear HG2 c1
  clear KK1 HN1 HX1 HO1
  go_wp2_with fail
  (with_reducible refine (wnum_any W0 _ HX2 u2 _ HO2 v.tries v3 B3.out).mono ?_)
  rintro _ w3 ⟨u3, rfl, HX3, HO3, HG3, -⟩
  rw [HS3.out] at HO3
  have KK3 := Lib.hid (grown_cells KK2.out (Nat.lt_of_lt_of_le hsz HX2.size) HG3 HN2.out)
  have HN3 := Lib.hid (own_neb HO3 hsz)
  have c3 : w3.cell? ⟨b, 3, none⟩ = some r := KK3.out 3
  clear HG3 c2
  clear KK2 HN2 HX2 HO2
  go_wp2_with fail
  (with_reducible refine (wlistr_any W0 _ HX3 u3 _ HO3 r v.roots HA.out.roots V4.out B4.out).mono ?_)
  rintro _ w4 ⟨u4, rfl, HX4, HO4, HG4, -⟩
  rw [HS4.out] at HO4
  have KK4 := Lib.hid (grown_cells KK3.out (Nat.lt_of_lt_of_le hsz HX3.size) HG4 HN3.out)
  have HN4 := Lib.hid (own_neb HO4 hsz)
  have c4 : w4.cell? ⟨b, 4, none⟩ = some l := KK4.out 4
  clear HG4 c3
  clear KK3 HN3 HX3 HO3
  go_wp2_with fail
  (with_reducible refine (wnums_any W0 _ HX4 u4 _ HO4 l v.last HA.out.last V5.out B5.out).mono ?_)
  rintro _ w5 ⟨u5, rfl, HX5, HO5, HG5, -⟩
  rw [HS5.out] at HO5
  have KK5 := Lib.hid (grown_cells KK4.out (Nat.lt_of_lt_of_le hsz HX4.size) HG5 HN4.out)
  have HN5 := Lib.hid (own_neb HO5 hsz)
  have c5 : w5.cell? ⟨b, 5, none⟩ = some o := KK5.out 5
  clear HG5 c4
  clear KK4 HN4 HX4 HO4
  go_wp2_with fail
  (with_reducible refine (wlisto_any W0 _ HX5 u5 _ HO5 o v.opens HA.out.opens V6.out B6.out).mono ?_)
  rintro _ w6 ⟨u6, rfl, HX6, HO6, HG6, -⟩
  rw [HS6.out] at HO6
  have KK6 := Lib.hid (grown_cells KK5.out (Nat.lt_of_lt_of_le hsz HX5.size) HG6 HN5.out)
  have HN6 := Lib.hid (own_neb HO6 hsz)
  have c6 : w6.cell? ⟨b, 6, none⟩ = some ra := KK6.out 6
  have c7 : w6.cell? ⟨b, 7, none⟩ = some rb := KK6.out 7
  have c8 : w6.cell? ⟨b, 8, none⟩ = some rc := KK6.out 8
  clear HG6 c5
  clear KK5 HN5 HX5 HO5
  go_wp2_with fail
  (with_reducible refine (wopn_any W0 _ HX6 u6 _ HO6 ra rb rc v.rows HA.out.rows v7 B7.out).mono ?_)
  rintro _ w7 ⟨u7, rfl, HX7, HO7, HG7, -⟩
  rw [HS7.out] at HO7
  have KK7 := Lib.hid (grown_cells KK6.out (Nat.lt_of_lt_of_le hsz HX6.size) HG7 HN6.out)
  have HN7 := Lib.hid (own_neb HO7 hsz)
  have c9 : w7.cell? ⟨b, 9, none⟩ = some la := KK7.out 9
  have c10 : w7.cell? ⟨b, 10, none⟩ = some lb := KK7.out 10
  have c11 : w7.cell? ⟨b, 11, none⟩ = some lc := KK7.out 11
  clear HG7 c6 c7 c8
  clear KK6 HN6 HX6 HO6
  go_wp2_with fail
  (with_reducible refine (wopn_any W0 _ HX7 u7 _ HO7 la lb lc v.fin HA.out.fin v8 B8.out).mono ?_)
  rintro _ w8 ⟨u8, rfl, HX8, HO8, HG8, -⟩
  rw [HS8.out] at HO8
  go_wp2_with (go_at_call 39; refine (clipb_any (Sl.of_own HO8 (by omega))).mono ?_; rintro e w' ⟨rfl, rfl⟩)
  go_ret
  exact .mk _ rfl (hal.trans HX8) (Sl.clip (Sl.of_own HO8 (by omega)))
end Go.Proofs.YthpgmjdepigihaaDoor
