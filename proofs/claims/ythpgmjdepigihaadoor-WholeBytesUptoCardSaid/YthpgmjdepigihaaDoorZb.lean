/- The document writes a voucher as bytes: contract. -/
import Derived.Test.YthpgmjdepigihaaDoorZa
import Derived.Test.YthpgmjdepigihaaDoorZ1
namespace Go.Proofs.YthpgmjdepigihaaDoor
open Go.RowKit Go.Att
set_option maxRecDepth 100000 in
set_option maxHeartbeats 4000000 in
theorem dbytes_any {w : World} {m a r l o ra rb rc la lb lc : Value} {v : Vch} (hA : VchAt w m a r l o ra rb rc la lb lc v) (hb : (encV v).length ≤ 4294967296) :
    Calls Tryd.prog 10 #[.agg #[m, a, .int .i64 v.tries, r, l, o, ra, rb, rc, la, lb, lc]] w (Gives w (BytsGot (encV v))) := by
  obtain ⟨A, B, C, ao, co, rfl, hoo⟩ := opns_split hA.opens
  obtain ⟨s1, hs1⟩ : ∃ x, encIs v.main = x := ⟨_, rfl⟩
  obtain ⟨s2, hs2⟩ : ∃ x, s1 ++ encIs v.aux = x := ⟨_, rfl⟩
  obtain ⟨s3, hs3⟩ : ∃ x, s2 ++ encI v.tries = x := ⟨_, rfl⟩
  obtain ⟨s4, hs4⟩ : ∃ x, s3 ++ encRs v.roots = x := ⟨_, rfl⟩
  obtain ⟨s5, hs5⟩ : ∃ x, s4 ++ encIs v.last = x := ⟨_, rfl⟩
  obtain ⟨s6, hs6⟩ : ∃ x, s5 ++ encOs v.opens = x := ⟨_, rfl⟩
  obtain ⟨s7, hs7⟩ : ∃ x, s6 ++ encO v.rows = x := ⟨_, rfl⟩
  obtain ⟨s8, hs8⟩ : ∃ x, s7 ++ encO v.fin = x := ⟨_, rfl⟩
  have hE : encV v = s8 := by unfold encV; rw [hs1, hs2, hs3, hs4, hs5, hs6, hs7, hs8]
  rw [hE] at hb ⊢
  have e1 : s1.length = (encIs v.main).length := by rw [← hs1]
  have e2 : s2.length = s1.length + (encIs v.aux).length := by rw [← hs2, List.length_append]
  have e3 : s3.length = s2.length + (encI v.tries).length := by rw [← hs3, List.length_append]
  have e4 : s4.length = s3.length + (encRs v.roots).length := by rw [← hs4, List.length_append]
  have e5 : s5.length = s4.length + (encIs v.last).length := by rw [← hs5, List.length_append]
  have e6 : s6.length = s5.length + (encOs v.opens).length := by rw [← hs6, List.length_append]
  have e7 : s7.length = s6.length + (encO v.rows).length := by rw [← hs7, List.length_append]
  have e8 : s8.length = s7.length + (encO v.fin).length := by rw [← hs8, List.length_append]
  have e9 : (encOs v.opens).length = (encI v.opens.length).length + (v.opens.flatMap encO).length := encL_len encO v.opens
  have HE6 := Lib.hid (show s6 = s5 ++ encI v.opens.length ++ v.opens.flatMap encO by rw [← hs6, List.append_assoc]; rfl)
  have B1 := Lib.hid (show ([] : List Int).length + (encIs v.main).length ≤ 4294967296 by simp only [List.length_nil]; omega)
  have B2 := Lib.hid (show s1.length + (encIs v.aux).length ≤ 4294967296 by omega)
  have B3 := Lib.hid (show s2.length + (encI v.tries).length ≤ 4294967296 by omega)
  have B4 := Lib.hid (show s3.length + (encRs v.roots).length ≤ 4294967296 by omega)
  have B5 := Lib.hid (show s4.length + (encIs v.last).length ≤ 4294967296 by omega)
  have B6 := Lib.hid (show s5.length + (encI v.opens.length).length + (v.opens.flatMap encO).length ≤ 4294967296 by omega)
  have B7 := Lib.hid (show s6.length + (encO v.rows).length ≤ 4294967296 by omega)
  have B8 := Lib.hid (show s7.length + (encO v.fin).length ≤ 4294967296 by omega)
  clear e1 e2 e3 e4 e5 e6 e7 e8 e9
  have HS1 := Lib.hid hs1
  have HS2 := Lib.hid hs2
  have HS3 := Lib.hid hs3
  have HS4 := Lib.hid hs4
  have HS5 := Lib.hid hs5
  have HS7 := Lib.hid hs7
  have HS8 := Lib.hid hs8
  have hal := Ext.alloc w (Obj.cells #[m, a, .int .i64 v.tries, r, l, .slice ao v.opens.length co, ra, rb, rc, la, lb, lc] 30)
  have KK := Lib.hid (cell_new w #[m, a, .int .i64 v.tries, r, l, .slice ao v.opens.length co, ra, rb, rc, la, lb, lc] 30)
  have HA := Lib.hid (hA.ext hal)
  have HOO := Lib.hid (hoo.ext hal)
  have hlen := hoo.len
  have hlo := hoo.run_len (P := Tryd.prog) slOpnY
  have HAL := Lib.hid hal
  have HW0 : Hid (Wtr 5 (w.alloc (Obj.cells #[m, a, .int .i64 v.tries, r, l, .slice ao v.opens.length co, ra, rb, rc, la, lb, lc] 30)) ((w.alloc (Obj.cells #[m, a, .int .i64 v.tries, r, l, .slice ao v.opens.length co, ra, rb, rc, la, lb, lc] 30)).alloc (Obj.cells #[.slice none 0 0] 92)) (w.heap.size + 1) []) := Lib.hid (by
    have hsz : w.heap.size + 1 = (w.alloc (Obj.cells #[m, a, .int .i64 v.tries, r, l, .slice ao v.opens.length co, ra, rb, rc, la, lb, lc] 30)).heap.size := by simp
    rw [hsz]
    exact ⟨⟨.slice none 0 0, cell_new _ #[.slice none 0 0] _ 0, World.ownsRow_nil _ _ _ _, by simp [Value.ownBlock]⟩, by simp, Ext.alloc _ _, Nat.le_refl _⟩)
  have c0 : ((w.alloc (Obj.cells #[m, a, .int .i64 v.tries, r, l, .slice ao v.opens.length co, ra, rb, rc, la, lb, lc] 30)).alloc (Obj.cells #[.slice none 0 0] 92)).cell? ⟨w.heap.size, 0, none⟩ = some m := (Ext.alloc _ _).cell (KK.out 0)
  clear hs1 hs2 hs3 hs4 hs5 hs6 hs7 hs8 hE hb hA hal hoo
  go_enter Tryd.func10, Tryd.ntmps10
  go_wp2_with fail
  generalize (w.alloc (Obj.cells #[m, a, .int .i64 v.tries, r, l, .slice ao v.opens.length co, ra, rb, rc, la, lb, lc] 30)).alloc (Obj.cells #[.slice none 0 0] 92) = W1 at *
  generalize w.alloc (Obj.cells #[m, a, .int .i64 v.tries, r, l, .slice ao v.opens.length co, ra, rb, rc, la, lb, lc] 30) = W0 at *
  (with_reducible refine (bnums_any W0 _ _ _ HW0.out m v.main HA.out.main B1.out).mono ?_)
  rintro _ w1 ⟨rfl, k1, -⟩
  rw [List.nil_append] at k1
  rw [HS1.out] at k1
  have HW1 := Lib.hid k1
  have c1 : w1.cell? ⟨w.heap.size, 1, none⟩ = some (a) := k1.ext.cell (KK.out 1)
  clear k1 c0 
  go_wp2_with fail
  (with_reducible refine (bnums_any W0 _ _ _ HW1.out a v.aux HA.out.aux B2.out).mono ?_)
  rintro _ w2 ⟨rfl, k1, -⟩
  rw [HS2.out] at k1
  have HW2 := Lib.hid k1
  have c2 : w2.cell? ⟨w.heap.size, 2, none⟩ = some (.int .i64 v.tries) := k1.ext.cell (KK.out 2)
  clear k1 c1 HW1
  go_wp2_with fail
  (with_reducible refine (bnum_any W0 _ _ _ HW2.out v.tries B3.out).mono ?_)
  rintro _ w3 ⟨rfl, k1, -⟩
  rw [HS3.out] at k1
  have HW3 := Lib.hid k1
  have c3 : w3.cell? ⟨w.heap.size, 3, none⟩ = some (r) := k1.ext.cell (KK.out 3)
  clear k1 c2 HW2
  go_wp2_with fail
  (with_reducible refine (brows_any W0 _ _ _ HW3.out r v.roots HA.out.roots B4.out).mono ?_)
  rintro _ w4 ⟨rfl, k1, -⟩
  rw [HS4.out] at k1
  have HW4 := Lib.hid k1
  have c4 : w4.cell? ⟨w.heap.size, 4, none⟩ = some (l) := k1.ext.cell (KK.out 4)
  clear k1 c3 HW3
  go_wp2_with fail
  (with_reducible refine (bnums_any W0 _ _ _ HW4.out l v.last HA.out.last B5.out).mono ?_)
  rintro _ w5 ⟨rfl, k1, -⟩
  rw [HS5.out] at k1
  have HW5 := Lib.hid k1
  have c5 : w5.cell? ⟨w.heap.size, 5, none⟩ = some (.slice ao v.opens.length co) := k1.ext.cell (KK.out 5)
  clear k1 c4 HW4
  go_wp2_with fail
  (with_reducible refine (bnum_any W0 _ _ _ HW5.out v.opens.length (by have := B6.out; omega)).mono ?_)
  rintro _ w6 ⟨rfl, k1, -⟩
  have HW6 := Lib.hid k1
  clear k1 HW5 c5
  go_wp2_with fail
  go_loopw [4] (fun x4 wr => ∃ (i : Nat), i ≤ v.opens.length ∧ x4 = .int .i64 i ∧ Hid (Wtr 5 W0 wr (w.heap.size + 1) (s5 ++ encI v.opens.length ++ (v.opens.take i).flatMap encO))) (fun x4 _ => v.opens.length - (intOf x4).toNat)
  case atStart => exact ⟨0, Nat.zero_le _, rfl, by simpa using HW6⟩
  case round =>
    clear HW6
    obtain ⟨i, hi, rfl, HWr⟩ := hrel
    have c5 : wr.cell? ⟨w.heap.size, 5, none⟩ = some (.slice ao v.opens.length co) := HWr.out.ext.cell (KK.out 5)
    by_cases hil : i < v.opens.length
    · have hix := HOO.out.run_index (P := Tryd.prog) slOpnY i hil
      obtain ⟨cb, cc, he, k0, k1, k2⟩ := (HOO.out.ext HWr.out.ext).cells i hil
      rw [he] at hix
      clear he
      have HROW := Lib.hid (HOO.out.row i hil)
      generalize A i = va at *; generalize B i = vb at *; generalize C i = vc at *
      have h2 := flat_take_le encO v.opens (i + 1)
      rw [flat_take_succ encO v.opens i hil, ← nthO_eq hil, List.length_append] at h2
      have H3 := Lib.hid (show (s5 ++ encI v.opens.length ++ (v.opens.take i).flatMap encO).length + (encO (nthO v.opens i)).length ≤ 4294967296 by have := B6.out; simp only [List.length_append]; omega)
      have H4 := Lib.hid (show (s5 ++ encI v.opens.length ++ (v.opens.take i).flatMap encO) ++ encO (nthO v.opens i) = s5 ++ encI v.opens.length ++ (v.opens.take (i + 1)).flatMap encO by rw [flat_take_succ encO v.opens i hil, nthO_eq hil]; simp)
      clear h2
      go_wp2_with fail
      (with_reducible refine (bopn_any W0 _ _ _ HWr.out va vb vc (nthO v.opens i) HROW.out H3.out).mono ?_)
      rintro _ w8 ⟨rfl, k3, -⟩
      rw [H4.out] at k3
      have HW8 := Lib.hid k3
      clear k3 k0 k1 k2 c5
      go_wp2_with fail
      go_roundw
      case rel => exact ⟨i + 1, by omega, by go_num, HW8⟩
      case measure => simp [intOf]; omega
    · obtain rfl : i = v.opens.length := by omega
      have HW6 : Hid (Wtr 5 W0 wr (w.heap.size + 1) s6) := Lib.hid (by have := HWr.out; rw [List.take_length, ← HE6.out] at this; exact this)
      have c6 : wr.cell? ⟨w.heap.size, 6, none⟩ = some ra := HWr.out.ext.cell (KK.out 6)
      have c7 : wr.cell? ⟨w.heap.size, 7, none⟩ = some rb := HWr.out.ext.cell (KK.out 7)
      have c8 : wr.cell? ⟨w.heap.size, 8, none⟩ = some rc := HWr.out.ext.cell (KK.out 8)
      clear HWr
      go_wp2_with fail
      (with_reducible refine (bopn_any W0 _ _ _ HW6.out ra rb rc v.rows HA.out.rows B7.out).mono ?_)
      rintro _ w7 ⟨rfl, k1, -⟩
      rw [HS7.out] at k1
      have HW7 := Lib.hid k1
      have c9 : w7.cell? ⟨w.heap.size, 9, none⟩ = some la := k1.ext.cell (KK.out 9)
      have c10 : w7.cell? ⟨w.heap.size, 10, none⟩ = some lb := k1.ext.cell (KK.out 10)
      have c11 : w7.cell? ⟨w.heap.size, 11, none⟩ = some lc := k1.ext.cell (KK.out 11)
      clear k1 c6 c7 c8 HW6 c5
      go_wp2_with fail
      (with_reducible refine (bopn_any W0 _ _ _ HW7.out la lb lc v.fin HA.out.fin B8.out).mono ?_)
      rintro _ w8 ⟨rfl, k1, -⟩
      rw [HS8.out] at k1
      obtain ⟨⟨vo, co, HO, -⟩, -, HX, -⟩ := k1
      obtain ⟨av, cv, rfl⟩ := own_shape3 HO
      clear c9 c10 c11 HW7
      have HOH := Lib.hid HO; have HXH := Lib.hid HX
      clear HO HX
      go_wp2_with fail
      go_ret
      exact .mk _ rfl (HAL.out.trans HXH.out) (Sl.of_own HOH.out (by omega))
end Go.Proofs.YthpgmjdepigihaaDoor
