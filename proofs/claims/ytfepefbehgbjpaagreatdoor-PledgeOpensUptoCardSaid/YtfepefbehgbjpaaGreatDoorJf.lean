/- The document's root of rows: contracts. -/
import Derived.Test.YtfepefbehgbjpaaGreatDoorJe
import Derived.Test.YtfepefbehgbjpaaGreatDoorZx11
namespace Go.Att
open Go.RowKit
section
variable {P : Program} {w : World} {v : Value} {L : List (List Int)} {R : Nat → Value}
theorem nthL_take {k i : Nat} (h : i < k) : nthL (L.take k) i = nthL L i := by
  unfold nthL
  simp [List.getD_eq_getElem?_getD, h]
theorem nthL_drop (k i : Nat) : nthL (L.drop k) i = nthL L (k + i) := by
  unfold nthL
  simp [List.getD_eq_getElem?_getD, List.getElem?_drop]
theorem rows_take (h : RwsAt w v L R) {t e bytes : Nat} {z : Value} (ht : SlT P t e 1 bytes z) (k : Nat) (hk : k ≤ L.length) :
    (∀ w', (Instr.sliceAt t v none (some (.int .i64 k)) none).run P w' = .ok (upTo v k) w') ∧ RwsAt w (upTo v k) (L.take k) R := by
  obtain ⟨ao, cap, rfl, h2, h3, h4, h5⟩ := h.sl
  have hu : P.underlying t = some (.slice (P.elem t)) := by rw [ht.und, elem_of ht.und]
  have hl : (L.take k).length = k := by simp; omega
  refine ⟨fun w' => ?_, ⟨⟨ao, cap, ?_, ?_, ?_, h4, fun i hi => ?_⟩, fun i hi => ?_⟩⟩
  · rw [run_sliceAt_slice (h := hu), run_slice_h (ht := hu) (h0 := by omega) (h2 := by omega), elem_of ht.und, ht.run_size]
    simp [Result.andThen, upTo]
  · rw [hl]
    cases ao with
    | none => simp [upTo, sliced]
    | some a =>
      rcases a with ⟨b, o, s⟩
      simp only [upTo, sliced, Nat.sub_zero]
      split
      · rfl
      · simp [Addr.add]
  · simp
  · rw [hl]; omega
  · have hi' : i < k := by simp at hi; omega
    obtain ⟨b, off, e1, e2⟩ := h5 i (by simp; omega)
    exact ⟨b, off, e1, by rw [e2]; simp⟩
  · rw [hl] at hi
    rw [nthL_take hi]
    exact h.row i (by omega)
theorem rows_drop (h : RwsAt w v L R) {t e bytes : Nat} {z : Value} (ht : SlT P t e 1 bytes z) (k : Nat) (hk : k < L.length) :
    (∀ w', (Instr.sliceAt t v (some (.int .i64 k)) none none).run P w' = .ok (fromV v k) w') ∧ RwsAt w (fromV v k) (L.drop k) (fun i => R (k + i)) := by
  obtain ⟨ao, cap, rfl, h2, h3, h4, h5⟩ := h.sl
  have hu : P.underlying t = some (.slice (P.elem t)) := by rw [ht.und, elem_of ht.und]
  have hl : (L.drop k).length = L.length - k := by simp
  obtain ⟨b, off, rfl, _⟩ := h5 0 (by simp; omega)
  refine ⟨fun w' => ?_, ⟨⟨some (Addr.add ⟨b, off, none⟩ k), cap - k, ?_, ?_, ?_, by omega, fun i hi => ?_⟩, fun i hi => ?_⟩⟩
  · rw [run_sliceAt_slice (h := hu), run_slice_l (ht := hu) (h0 := by omega) (h1 := by omega), elem_of ht.und, ht.run_size]
    simp [Result.andThen, fromV]
  · rw [hl]; simp [fromV, sliced, show ¬ cap = k by omega]
  · simp
  · rw [hl]; omega
  · have hi' : i < L.length - k := by simpa using hi
    obtain ⟨b', off', e1, e2⟩ := h5 (k + i) (by simp; omega)
    injection e1 with e1; injection e1 with e1 e3
    subst e1 e3
    refine ⟨b, off + k, by rw [Addr.add_lit], ?_⟩
    rw [Nat.add_assoc, e2]; simp
  · rw [hl] at hi
    rw [nthL_drop]
    exact h.row (k + i) (by omega)
end
end Go.Att
namespace Go.Proofs.YtfepefbehgbjpaaGreatDoor
open Go.RowKit Go.Att
section
variable {w : World} {p : Int} {k : Nat}
set_option maxRecDepth 100000 in
set_option maxHeartbeats 4000000 in
theorem rleaf_any (h23 : 23 ≤ p) (hp2 : p ≤ 2147483647) (hk : IsPw p k) {v : Value} {l : List Int} (hv : Ints w v l) (hs : l.length ≤ 1048575000) :
    Calls Tryz.prog 99 #[.int .i64 p, v] w (Gives w fun u w' => Ints w' u (hashP p k (0 :: l))) := by
  have HV := Lib.hid hv; have HK := Lib.hid hk
  have HX1 := Lib.hid (Ext.alloc w (Obj.cells #[.int .i64 0] 3))
  have HO1 := Lib.hid (own_litB (W := w) (B := w.heap.size) [.int .i64 0] 3 (by simp) (Nat.le_refl _))
  clear hv hk
  go_enter Tryz.func99, Tryz.ntmps99
  go_wp2_with (first | (at_builtin; refine wpList_appSl rfl _ _ 22 rfl slInts rfl HX1.out HO1.out rfl (HV.out.ext HX1.out) (by intro u hu; simp only [List.mem_map] at hu; obtain ⟨_, _, rfl⟩ := hu; rfl) rfl (by show 1 + l.length ≤ _; omega) (by omega) ?_; intro v6 w6 HO6 HX6 _; have HI6 := Lib.hid (show Ints w6 v6 (0 :: l) from Ints.of_own (B := w.heap.size) (e := 3) HO6); clear HO6) | (go_at_call 97; refine (rhash_any p k v6 (0 :: l) w6 h23 hp2 HK.out HI6.out (by simp; omega)).mono ?_; rintro e w7 ⟨v7, rfl, hx7, hi7, -⟩))
  go_ret
  exact .mk _ rfl (HX6.trans hx7) hi7
set_option maxRecDepth 100000 in
set_option maxHeartbeats 4000000 in
theorem rnode_any (h23 : 23 ≤ p) (hp2 : p ≤ 2147483647) (hk : IsPw p k) {v u : Value} {l m : List Int} (hv : Ints w v l) (hu : Ints w u m) (hs : l.length ≤ 1000) (hs2 : m.length ≤ 1000) :
    Calls Tryz.prog 101 #[.int .i64 p, v, u] w (Gives w fun u w' => Ints w' u (hashP p k (1 :: (l ++ m)))) := by
  have HV := Lib.hid hv; have HK := Lib.hid hk; have HU := Lib.hid hu
  have HX1 := Lib.hid (Ext.alloc w (Obj.cells #[.int .i64 1] 3))
  have HO1 := Lib.hid (own_litB (W := w) (B := w.heap.size) [.int .i64 1] 3 (by simp) (Nat.le_refl _))
  clear hv hk hu
  go_enter Tryz.func101, Tryz.ntmps101
  go_wp2_with (first | (at_builtin; refine wpList_appSl rfl _ _ 22 rfl slInts rfl HX1.out HO1.out rfl (HV.out.ext HX1.out) (by intro u hu; simp only [List.mem_map] at hu; obtain ⟨_, _, rfl⟩ := hu; rfl) rfl (by show 1 + l.length ≤ _; omega) (by omega) ?_; intro v6 w6 HO6 HX6 _; have HO6H := Lib.hid HO6; clear HO6) | (at_builtin; refine wpList_appSl rfl _ _ 22 rfl slInts rfl HX6 HO6H.out rfl (HU.out.ext HX6) (by intro u hu; simp only [List.mem_map] at hu; obtain ⟨_, _, rfl⟩ := hu; rfl) rfl (by show 1 + l.length + m.length ≤ _; omega) (by omega) ?_; intro v8 w8 HO8 HX8 _; have HI8 := Lib.hid (show Ints w8 v8 (1 :: (l ++ m)) from Ints.of_own (B := w.heap.size) (e := 3) (n := 1 + l.length + m.length) (by simpa using HO8)); clear HO8) | (go_at_call 97; refine (rhash_any p k v8 (1 :: (l ++ m)) w8 h23 hp2 HK.out HI8.out (by simp; omega)).mono ?_; rintro e w9 ⟨v9, rfl, hx9, hi9, -⟩))
  go_ret
  exact .mk _ rfl (HX8.trans hx9) hi9
set_option maxRecDepth 100000 in
set_option maxHeartbeats 4000000 in
theorem rleft_any (n : Nat) (hn : 2 ≤ n) (hb : n ≤ 65536) (w : World) :
    Calls Tryz.prog 100 #[.int .i64 n] w fun e w' => e = .returned (.int .i64 (lfN n)) ∧ w = w' := by
  have HL0 := Lib.hid (show lfGo n n 1 = lfN n from rfl)
  go_enter Tryz.func100, Tryz.ntmps100
  go_wp2
  go_loop [3] (fun x3 => ∃ m f : Nat, x3 = .int .i64 m ∧ 1 ≤ m ∧ m < n ∧ n ≤ f + m ∧ lfGo n f m = lfN n) (fun x3 => n - (intOf x3).toNat)
  case atStart => exact ⟨1, n, rfl, by omega, by omega, by omega, HL0.out⟩
  case round =>
    obtain ⟨m, f, rfl, hm1, hmn, hf, hg⟩ := hrel
    by_cases h2 : 2 * m < n
    · obtain ⟨f', rfl⟩ : ∃ f', f = f' + 1 := ⟨f - 1, by omega⟩
      have HG := Lib.hid (show lfGo n f' (2 * m) = lfN n from by rw [← hg]; simp [lfGo, h2])
      have h2i : (m : Int) * 2 < (n : Int) := by omega
      clear hg
      go_wp2
      go_round
      case rel => exact ⟨2 * m, f', by first | go_num | (congr 1; omega), by omega, h2, by omega, HG.out⟩
      case measure => simp [intOf]; omega
    · have HG := Lib.hid (show m = lfN n from by rw [← hg, lfGo_done h2])
      have h2i : ¬ ((m : Int) * 2 < (n : Int)) := by omega
      clear hg
      go_wp2
      go_ret
      exact ⟨by rw [← HG.out]; rfl, rfl⟩
end
section
variable {p : Int} {k : Nat}
set_option maxRecDepth 100000 in
set_option maxHeartbeats 4000000 in
theorem rroot_any (h23 : 23 ≤ p) (hp2 : p ≤ 2147483647) (hk : IsPw p k) : ∀ (f : Nat) (w : World) (v : Value) (L : List (List Int)) (R : Nat → Value), RwsAt w v L R → 1 ≤ L.length → L.length ≤ f → L.length ≤ 65536 → (∀ i, i < L.length → (nthL L i).length ≤ 1048575000) →
    Calls Tryz.prog 47 #[.int .i64 p, v] w (Gives w fun u w' => Ints w' u (rootF p k f L))
  | 0, w, v, L, R, hr, h1, h2, h3, h4 => by omega
  | f + 1, w, v, L, R, hr, h1, h2, h3, h4 => by
    have HK := Lib.hid hk
    have hll := hr.run_len (P := Tryz.prog) slRows
    by_cases hn1 : L.length = 1
    · have HRF := Lib.hid (show rootF p k (f + 1) L = hashP p k (0 :: nthL L 0) from by simp only [rootF]; rw [if_pos hn1])
      have hix := hr.run_index (P := Tryz.prog) slRows 0 (by omega)
      have hcx := hr.cell 0 (by omega)
      rw [show ((0 : Nat) : Int) = 0 from rfl] at hix
      have HROW := Lib.hid (hr.row 0 (by omega))
      have HL0 := Lib.hid (h4 0 (by omega))
      rw [hn1] at hll
      clear hr h4 hk
      go_enter Tryz.func47, Tryz.ntmps47
      go_wp2_with (go_at_call 99; refine (rleaf_any h23 hp2 HK.out HROW.out HL0.out).mono ?_; rintro e w2 ⟨v2, rfl, hx2, hi2⟩)
      go_ret
      exact .mk _ rfl hx2 (by rw [HRF.out]; exact hi2)
    · obtain ⟨n, hn⟩ : ∃ n, L.length = n := ⟨_, rfl⟩
      have hn2 : 2 ≤ n := by omega
      have hLB := lfN_bd hn2
      obtain ⟨m, hm⟩ : ∃ m, lfN n = m := ⟨_, rfl⟩
      rw [hm] at hLB
      have ht := rows_take hr (P := Tryz.prog) slRows m (by omega)
      have hd := rows_drop hr (P := Tryz.prog) slRows m (by omega)
      obtain ⟨A, hA⟩ : ∃ A, rootF p k f (L.take m) = A := ⟨_, rfl⟩
      obtain ⟨B, hB⟩ : ∃ B, rootF p k f (L.drop m) = B := ⟨_, rfl⟩
      have HRF := Lib.hid (show rootF p k (f + 1) L = hashP p k (1 :: (A ++ B)) from by simp only [rootF]; rw [if_neg hn1, hn, hm, hA, hB])
      have hlA : A.length ≤ 4 := by rw [← hA]; exact rootF_len _ _ _ _
      have hlB : B.length ≤ 4 := by rw [← hB]; exact rootF_len _ _ _ _
      have hit := ht.1; have hid := hd.1
      have CA := Lib.hid (by have := rroot_any h23 hp2 hk f w (upTo v m) (L.take m) R ht.2 (by simp; omega) (by simp; omega) (by simp; omega) (fun i hi => by rw [nthL_take (by simp at hi; omega)]; exact h4 i (by simp at hi; omega)); rw [hA] at this; exact this)
      have CB := Lib.hid (fun W' (h : Ext w W') => by have := rroot_any h23 hp2 hk f W' (fromV v m) (L.drop m) _ (hd.2.ext h) (by simp; omega) (by simp; omega) (by simp; omega) (fun i hi => by rw [nthL_drop]; exact h4 (m + i) (by simp at hi; omega)); rw [hB] at this; exact this)
      have CL := Lib.hid (fun W' => by have := rleft_any n hn2 (by omega) W'; rw [hm] at this; exact this)
      have hn1' : ¬ ((n : Int) = 1) := by omega
      rw [hn] at hll
      clear hr h4 hk ht hd hA hB hm hn hn1
      go_enter Tryz.func47, Tryz.ntmps47
      go_wp2_with (go_at_call 100; refine (CL.out _).mono ?_; rintro e w' ⟨rfl, rfl⟩)
      refine CA.out.mono ?_
      rintro e w2 ⟨v2, rfl, hx2, hi2⟩
      have HI2 := Lib.hid hi2
      clear hi2
      go_wp2_with fail
      refine (CB.out _ hx2).mono ?_
      rintro e w3 ⟨v3, rfl, hx3, hi3⟩
      have HI3 := Lib.hid hi3
      clear hi3
      go_wp2_with (go_at_call 101; refine (rnode_any h23 hp2 HK.out (HI2.out.ext hx3) HI3.out (by omega) (by omega)).mono ?_; rintro e w4 ⟨v4, rfl, hx4, hi4⟩)
      go_ret
      exact .mk _ rfl (hx2.trans (hx3.trans hx4)) (by rw [HRF.out]; exact hi4)
end
end Go.Proofs.YtfepefbehgbjpaaGreatDoor
