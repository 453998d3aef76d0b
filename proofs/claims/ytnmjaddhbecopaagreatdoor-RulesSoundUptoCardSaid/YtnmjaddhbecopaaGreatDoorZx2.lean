/- Tables: a set of places; the holes: plain words. Tables: the holes of a run: the program's contract. -/
import Derived.Test.YtnmjaddhbecopaaGreatDoorZx14
import Derived.Test.YtnmjaddhbecopaaGreatDoorZx1
import Derived.Test.YtnmjaddhbecopaaGreatDoorZx6
section
namespace Go.Att
open Go.Maps Go.RowKit
/-- A map's datum that reads as a set of numbers. -/
structure SetD {H : Type} (D : DataW H) (S : Int → Bool) : Prop where
  isMap : IsMap D
  yes : ∀ k : Int, S k = true → ∀ z : DataW H, D.atKey (.int .i64 k) z = .lit (.bool true)
  no : ∀ k : Int, S k = false → ∀ z : DataW H, D.atKey (.int .i64 k) z = z
theorem SetD.nil {H : Type} : SetD (.map [] : DataW H) (fun _ => false) := ⟨isMap_empty, fun _ h => (nomatch h), fun _ _ _ => rfl⟩
theorem SetD.put {H : Type} {D : DataW H} {S : Int → Bool} (h : SetD D S) {k : Int} (hk : WideAt.IsKeyLit (Lit.int .i64 k)) : SetD (D.put (.int .i64 k) (.lit (.bool true))) (fun j => S j || decide (j = k)) := by
  refine ⟨h.isMap.put _ _, fun j hj z => ?_, fun j hj z => ?_⟩
  · by_cases e : j = k
    · subst e; exact atKey_put_same h.isMap hk _ _
    · rw [atKey_put_other (lit_ne e)]
      exact h.yes j (by simpa [e] using hj) z
  · simp only [Bool.or_eq_false_iff, decide_eq_false_iff_not] at hj
    rw [atKey_put_other (lit_ne hj.2)]
    exact h.no j hj.1 z
/-- A set in a map's block; n bounds how many entries it has. -/
def Tset (P : Program) (K B : TypeId) (w : World) (mb : Nat) (n : Int) (S : Int → Bool) : Prop := ∃ (c : Nat) (D : DataW Unit), (c : Int) ≤ n ∧ w.ownsMap P K (plainElem P B) mb c D ∧ SetD D S
section
variable {P : Program} {K B T : TypeId} {w w' : World} {mb : Nat} {n : Int} {S : Int → Bool}
theorem Tset.lt (h : Tset P K B w mb n S) : mb < w.heap.size := by obtain ⟨c, D, _, h2, _⟩ := h; exact h2.lt
theorem Tset.kept (h : Tset P K B w mb n S) {row : Option Nat} (hg : w.grownBy w' row) (hne : some mb ≠ row) : Tset P K B w' mb n S := by
  obtain ⟨c, D, h1, h2, h3⟩ := h; exact ⟨c, D, h1, h2.kept hg hne, h3⟩
theorem Tset.mono (h : Tset P K B w mb n S) {m : Int} (hm : n ≤ m) : Tset P K B w mb m S := by
  obtain ⟨c, D, h1, h2, h3⟩ := h; exact ⟨c, D, Int.le_trans h1 hm, h2, h3⟩
theorem Tset.made (w : World) : Tset P K B (w.alloc (.map #[] 0)) w.heap.size 0 (fun _ => false) := ⟨0, .map [], Int.le_refl _, World.ownsMap_made _ _ _ _, SetD.nil⟩
theorem Tset.ext (h : Tset P K B w mb n S) (hx : Ext w w') : Tset P K B w' mb n S := h.kept (hx.grownBy none) (by simp)
theorem plainElem_bool_inv {P : Program} {e : TypeId} (he : P.underlying e = some .bool) {v : Value} {H : Type} {x : Bool} {ps : List MemPlace} (h : plainElem (H := H) P e v = some (.lit (.bool x), ps)) : v = .bool x := by
  unfold plainElem at h
  rw [he] at h
  cases v <;> simp at h
  rw [h.1]
variable (hk : P.underlying K = some (.int .i64)) (hb : P.underlying B = some .bool) (ht : P.underlying T = some (.map K B))
include hk hb ht
theorem Tset.look (hz : ∀ w, (zeroValue B).run P w = .ok (.bool false) w) (h : Tset P K B w mb n S) {k : Int} (h0 : 0 ≤ k) (h1 : k ≤ 2147483647) : (Instr.lookup T (.map (some mb)) (.int .i64 k) false).run P w = .ok (.bool (S k)) w := by
  obtain ⟨c, D, _, h2, h3⟩ := h
  obtain ⟨v, ps, hr, hv⟩ := h2.lookup (int_keyed hk) ht (hz w) (plainElem_bool hb false) (keyOf_int_mk hk (wf_small h0 h1))
  have e : D.atKey (.int .i64 k) (.lit (.bool false)) = .lit (.bool (S k)) := by
    cases hs : S k with
    | true => exact h3.yes k hs _
    | false => exact h3.no k hs _
  rw [e] at hv
  rw [hr, plainElem_bool_inv hb hv]
theorem Tset.add (h : Tset P K B w mb n S) (hn : n < 9223372036854775807) {k : Int} (h0 : 0 ≤ k) (h1 : k ≤ 2147483647) :
    ∃ w', (Instr.mapUpdate T (.map (some mb)) (.int .i64 k) (.bool true)).run P w = .ok () w' ∧ Tset P K B w' mb (n + 1) (fun j => S j || decide (j = k)) ∧ w.grownBy w' (some mb) := by
  obtain ⟨c, D, hc, ho, hd⟩ := h
  obtain ⟨w', hr, ho', hg⟩ := ho.update (int_keyed hk) ht (by unfold maxLen; omega) (keyOf_int_mk hk (wf_small h0 h1)) (plainElem_bool hb true)
  exact ⟨w', hr, ⟨c + 1, _, by omega, ho', hd.put trivial⟩, hg⟩
end
/-- The greatest of some numbers, or 0. -/
def topL (xs : List Int) : Int := xs.foldl (fun x y => if y > x then y else x) 0
theorem topL_snoc (xs : List Int) (a : Int) : topL (xs ++ [a]) = if a > topL xs then a else topL xs := by simp [topL]
theorem top_fold : ∀ (xs : List Int) (m : Int), m ≤ xs.foldl (fun x y => if y > x then y else x) m ∧ (∀ x ∈ xs, x ≤ xs.foldl (fun x y => if y > x then y else x) m) ∧ ∀ b, m ≤ b → (∀ x ∈ xs, x ≤ b) → xs.foldl (fun x y => if y > x then y else x) m ≤ b
  | [], m => ⟨Int.le_refl _, fun x hx => (nomatch hx), fun b h _ => h⟩
  | a :: xs, m => by
    rw [List.foldl_cons]
    obtain ⟨h1, h2, h3⟩ := top_fold xs (if a > m then a else m)
    generalize xs.foldl (fun x y => if y > x then y else x) (if a > m then a else m) = r at h1 h2 h3 ⊢
    have hm : m ≤ (if a > m then a else m) ∧ a ≤ (if a > m then a else m) := by split <;> omega
    refine ⟨by omega, fun x hx => ?_, fun b hb hx => h3 b ?_ (fun x h => hx x (by simp [h]))⟩
    · rw [List.mem_cons] at hx
      rcases hx with rfl | hx
      · omega
      · exact h2 x hx
    · have := hx a (by simp)
      split <;> omega
theorem topL_bd {xs : List Int} {b : Int} (h : ∀ x ∈ xs, x ≤ b) (h0 : 0 ≤ b) : 0 ≤ topL xs ∧ topL xs ≤ b :=
  ⟨(top_fold xs 0).1, (top_fold xs 0).2.2 b h0 h⟩
theorem topL_ge {xs : List Int} : ∀ x ∈ xs, x ≤ topL xs := (top_fold xs 0).2.1
/-- The numbers below one that are none of some. -/
def holesUp (xs : List Int) (a : Nat) : List Int := ((List.range a).filter fun k : Nat => decide ((k : Int) ∉ xs)).map Int.ofNat
theorem holesUp_succ (xs : List Int) (a : Nat) : holesUp xs (a + 1) = if (a : Int) ∈ xs then holesUp xs a else holesUp xs a ++ [(a : Int)] := by
  unfold holesUp
  rw [List.range_succ, List.filter_append, List.map_append]
  by_cases h : (a : Int) ∈ xs <;> simp [h]
theorem holesUp_pre (xs : List Int) {a b : Nat} (h : a ≤ b) : ∃ r, holesUp xs b = holesUp xs a ++ r := by
  induction b with
  | zero => obtain rfl : a = 0 := by omega
            exact ⟨[], by simp⟩
  | succ b ih =>
    by_cases e : a = b + 1
    · subst e; exact ⟨[], by simp⟩
    · obtain ⟨r, hr⟩ := ih (by omega)
      rw [holesUp_succ]
      split
      · exact ⟨r, hr⟩
      · exact ⟨r ++ [(b : Int)], by rw [hr, List.append_assoc]⟩
theorem holesUp_full {xs : List Int} {a b : Nat} (h : a ≤ b) (hl : (holesUp xs a).length = 513) : holesUp xs a = (holesUp xs b).take 513 := by
  obtain ⟨r, hr⟩ := holesUp_pre xs h
  rw [hr, ← hl, List.take_left]
/-- The places of a step; of all. -/
def atsOf (t : Stp) : List Int := [accA t.acc 0, accA t.acc 1, accA t.acc 2]
def atsAll (l : List Stp) : List Int := l.flatMap atsOf
theorem atsAll_take {l : List Stp} {i : Nat} (h : i < l.length) : atsAll (l.take (i + 1)) = atsAll (l.take i) ++ atsOf l[i] := by
  unfold atsAll
  rw [List.take_succ_eq_append_getElem h, List.flatMap_append]
  simp
theorem atsOf_take (t : Stp) (j : Nat) (h : j < 3) : (atsOf t).take (j + 1) = (atsOf t).take j ++ [accA t.acc j] := by
  have h3 : j = 0 ∨ j = 1 ∨ j = 2 := by omega
  rcases h3 with rfl | rfl | rfl <;> rfl
/-- The holes of a run. -/
def missL (l : List Stp) : List Int := holesUp (atsAll l) (topL (atsAll l)).toNat
theorem set_snoc (xs : List Int) (a : Int) : (fun k => decide (k ∈ xs ++ [a])) = fun k => decide (k ∈ xs) || decide (k = a) := by
  funext k
  by_cases h1 : k ∈ xs <;> by_cases h2 : k = a <;> simp [h1, h2]
end Go.Att
end
section
namespace Go.Proofs.YtnmjaddhbecopaaGreatDoor
open Go.RowKit Go.Att Go.Maps
theorem slIntT : SlT Tryz.prog 23 3 1 8 (.int .i64 0) := .mk' Tryz.underlying23 (by kernel_rfl) (by decide)
theorem zeroB (w : World) : (zeroValue 4).run Tryz.prog w = .ok (.bool false) w := by kernel_rfl
theorem own_not_set {P : Program} {K B : TypeId} {w : World} {B0 e sz c : Nat} {v : Value} {xs : List Value} {mb : Nat} {n : Int} {S : Int → Bool} (h : w.ownsRow B0 e sz v c xs) (hb : Tset P K B w mb n S) : v.ownBlock ≠ some mb := by
  rcases h.2 with ⟨rfl, _⟩ | ⟨g, cap, cur, rfl, _, hg, _⟩
  · simp [Value.ownBlock]
  · intro e2
    simp [Value.ownBlock] at e2
    subst e2
    obtain ⟨_, _, _, ⟨es, clock, hb, _⟩, _⟩ := hb
    rw [hg] at hb
    simp at hb
theorem idx3a (a b c : Int) (w : World) : (Instr.index 188 (.agg #[.int .i64 a, .int .i64 b, .int .i64 c]) (.int .i64 0)).run Tryz.prog w = .ok (.int .i64 a) w := by kernel_rfl
theorem idx3b (a b c : Int) (w : World) : (Instr.index 188 (.agg #[.int .i64 a, .int .i64 b, .int .i64 c]) (.int .i64 1)).run Tryz.prog w = .ok (.int .i64 b) w := by kernel_rfl
theorem idx3c (a b c : Int) (w : World) : (Instr.index 188 (.agg #[.int .i64 a, .int .i64 b, .int .i64 c]) (.int .i64 2)).run Tryz.prog w = .ok (.int .i64 c) w := by kernel_rfl
theorem idx3 (t : Stp) (j : Nat) (hj : j < 3) (w : World) : (Instr.index 188 (.agg #[.int .i64 (accA t.acc 0), .int .i64 (accA t.acc 1), .int .i64 (accA t.acc 2)]) (.int .i64 (j : Int))).run Tryz.prog w = .ok (.int .i64 (accA t.acc j)) w := by
  have h3 : j = 0 ∨ j = 1 ∨ j = 2 := by omega
  rcases h3 with rfl | rfl | rfl
  · exact idx3a _ _ _ w
  · exact idx3b _ _ _ w
  · exact idx3c _ _ _ w
set_option maxRecDepth 100000 in
set_option maxHeartbeats 8000000 in
theorem holes_any {w : World} {sv : Value} {l : List Stp} (hs : Sl w 10 sv l.length (flatS l)) (hl : l.length ≤ 16385) (hb : ∀ t ∈ l, ∀ j, 0 ≤ accA t.acc j ∧ accA t.acc j ≤ 2147483646) :
    Calls Tryz.prog 181 #[sv] w fun e w' => ∃ v, e = .returned v ∧ Ints w' v ((missL l).take 513) ∧ Ext w w' := by
  have hmm := @run_makeMap Tryz.prog
  have hll := fun w' => Sl.run_len (P := Tryz.prog) hs slStep 3 w'
  have HT0 := Lib.hid (Tset.made (P := Tryz.prog) (K := 3) (B := 4) w)
  have HX0 := Lib.hid (Ext.alloc w (.map #[] 0))
  have HS := Lib.hid hs; have HB := Lib.hid hb
  clear hs hb
  go_enter Tryz.func181, Tryz.ntmps181
  go_upto_region 3 with (fail)
  generalize w.alloc (.map #[] 0) = W0 at *
  generalize hmb : w.heap.size = mb at *
  have HMB := Lib.hid hmb
  clear hmb hmm
  go_wp2_with fail
  go_loopw [4, 14] (fun x4 x14 wr => ∃ (i : Nat) (g : Int), i ≤ l.length ∧ x14 = .int .i64 i ∧ x4 = .int .i64 g ∧ Hid (topL (atsAll (l.take i)) = g) ∧ Hid (Tset Tryz.prog 3 4 wr mb (3 * i) (fun k => decide (k ∈ atsAll (l.take i)))) ∧ Hid (Ext w wr)) (fun _ x14 _ => l.length - (intOf x14).toNat)
  case atStart => exact ⟨0, 0, Nat.zero_le _, rfl, rfl, Lib.hid rfl, Lib.hid (by simpa [atsAll] using HT0.out), HX0⟩
  case round =>
    obtain ⟨i, g, hi, rfl, rfl, HG, HT, HX⟩ := hrel
    by_cases hil : i < l.length
    · have hix : ∀ w', (Instr.indexAt 189 sv (.int .i64 (i : Int))).run Tryz.prog w' = .ok (.pointer (some (elt sv i 10))) w' := fun w' => by
        have := Sl.run_index (P := Tryz.prog) HS.out slStep (i : Int) (by omega) (by omega) w'
        rw [Int.toNat_natCast] at this; exact this
      obtain ⟨c0, c1, c2, c3, c4, c5, c6, c7, c8, c9⟩ := stp_all (Sl.ext HS.out HX.out) i hil
      have HTK := Lib.hid (atsAll_take hil)
      have hbj := HB.out l[i] (List.getElem_mem hil)
      generalize l[i] = t at *
      have HBJ := Lib.hid hbj
      clear hbj
      go_upto_region 6 with (fail)
      have hxn := Ext.alloc wr (Obj.cells #[.int .i64 t.pc, .int .i64 t.fp, .int .i64 t.ap, .int .i64 t.rv, .int .i64 (accA t.acc 0), .int .i64 (accA t.acc 1), .int .i64 (accA t.acc 2), .int .i64 (accI t.acc 0), .int .i64 (accI t.acc 1), .int .i64 (accI t.acc 2)] 247)
      have hbn := BlkOf.new wr [.int .i64 t.pc, .int .i64 t.fp, .int .i64 t.ap, .int .i64 t.rv, .int .i64 (accA t.acc 0), .int .i64 (accA t.acc 1), .int .i64 (accA t.acc 2), .int .i64 (accI t.acc 0), .int .i64 (accI t.acc 1), .int .i64 (accI t.acc 2)] 247
      have HT5 := Lib.hid (HT.out.ext hxn); have HX5 := Lib.hid (HX.out.trans hxn); have HBN := Lib.hid hbn
      clear c0 c1 c2 c3 c4 c5 c6 c7 c8 c9 hxn hbn HT HX hix
      generalize wr.alloc (Obj.cells #[.int .i64 t.pc, .int .i64 t.fp, .int .i64 t.ap, .int .i64 t.rv, .int .i64 (accA t.acc 0), .int .i64 (accA t.acc 1), .int .i64 (accA t.acc 2), .int .i64 (accI t.acc 0), .int .i64 (accI t.acc 1), .int .i64 (accI t.acc 2)] 247) = W5 at *
      generalize wr.heap.size = sb at *
      have s4 : W5.cell? ⟨sb, 4, none⟩ = some (.int .i64 (accA t.acc 0)) := HBN.out.cell 4
      have s5 : W5.cell? ⟨sb, 5, none⟩ = some (.int .i64 (accA t.acc 1)) := HBN.out.cell 5
      have s6 : W5.cell? ⟨sb, 6, none⟩ = some (.int .i64 (accA t.acc 2)) := HBN.out.cell 6
      go_wp2_with fail
      clear s4 s5 s6 HBN
      go_loopw [4, 20] (fun x4 x20 ws => ∃ (j : Nat) (g : Int), j ≤ 3 ∧ x20 = .int .i64 j ∧ x4 = .int .i64 g ∧ Hid (topL (atsAll (l.take i) ++ (atsOf t).take j) = g) ∧ Hid (Tset Tryz.prog 3 4 ws mb ((3 * i + j : Nat) : Int) (fun k => decide (k ∈ atsAll (l.take i) ++ (atsOf t).take j))) ∧ Hid (Ext w ws)) (fun _ x20 _ => 3 - (intOf x20).toNat)
      case atStart => exact ⟨0, g, by omega, rfl, rfl, Lib.hid (by simpa using HG.out), Lib.hid (by simpa using HT5.out), HX5⟩
      case round =>
        clear HG HT5 HX5
        obtain ⟨j, g, hj, rfl, rfl, HG, HT, HX⟩ := hrel
        by_cases hj3 : j < 3
        · obtain ⟨a, ha⟩ : ∃ a, accA t.acc j = a := ⟨_, rfl⟩
          have hab := HBJ.out j
          obtain ⟨w2, hr, hT, hg⟩ := HT.out.add Tryz.underlying3 Tryz.underlying4 Tryz.underlying297 (by omega) hab.1 (by omega)
          have HX2 := Lib.hid ((Turned.one (c := mb) hg).ext HX.out (by rw [HMB.out]; exact Nat.le_refl _) (by rw [HMB.out]; exact Nat.le_refl _))
          have HT2 : Hid (Tset Tryz.prog 3 4 w2 mb ((3 * i + (j + 1) : Nat) : Int) (fun k => decide (k ∈ atsAll (l.take i) ++ (atsOf t).take (j + 1)))) := Lib.hid (by rw [atsOf_take t j hj3, ← List.append_assoc, set_snoc]; exact hT.mono (by omega))
          have HG2 := Lib.hid (show topL (atsAll (l.take i) ++ (atsOf t).take (j + 1)) = if accA t.acc j > g then accA t.acc j else g by rw [atsOf_take t j hj3, ← List.append_assoc, topL_snoc, HG.out])
          clear hT hg HT HX HG ha a hab
          have hid := idx3 t j hj3
          go_wp2_with fail
          go_roundw
          case rel => exact ⟨j + 1, _, by omega, by go_num, rfl, (by first | exact HG2 | exact Lib.hid (HG2.out.trans (by split <;> omega))), HT2, HX2⟩
          case measure => simp [intOf]; omega
        · obtain rfl : j = 3 := by omega
          have HT2 : Hid (Tset Tryz.prog 3 4 wr mb (3 * ((i + 1 : Nat) : Int)) (fun k => decide (k ∈ atsAll (l.take (i + 1))))) := Lib.hid (by rw [HTK.out]; exact HT.out.mono (by omega))
          have HG2 := Lib.hid (show topL (atsAll (l.take (i + 1))) = g by rw [HTK.out]; exact HG.out)
          clear HT HG
          go_wp2_with fail
          go_roundw
          case rel => exact ⟨i + 1, g, by omega, by go_num, rfl, HG2, HT2, HX⟩
          case measure => simp [intOf]; omega
    · obtain rfl : i = l.length := by omega
      rw [List.take_length] at HG HT
      have hgb := topL_bd (xs := atsAll l) (b := 2147483646) (fun x hx => by
        unfold atsAll at hx
        rw [List.mem_flatMap] at hx
        obtain ⟨t, ht, hx⟩ := hx
        have h0 := HB.out t ht
        unfold atsOf at hx
        simp only [List.mem_cons, List.not_mem_nil, or_false] at hx
        rcases hx with rfl | rfl | rfl
        · exact (h0 0).2
        · exact (h0 1).2
        · exact (h0 2).2) (by decide)
      rw [HG.out] at hgb
      obtain ⟨gn, rfl⟩ := Int.eq_ofNat_of_zero_le hgb.1
      have hgn : gn ≤ 2147483646 := by omega
      have HGN := Lib.hid (show missL l = holesUp (atsAll l) gn by unfold missL; rw [HG.out, Int.toNat_natCast])
      clear HG hgb hi
      generalize atsAll l = xs at *
      go_wp2_with fail
      generalize hW1 : wr = W1 at *
      clear hW1
      go_loopw [9, 31] (fun x9 x31 wr => ∃ a : Nat, a ≤ gn ∧ x31 = .int .i64 a ∧ (holesUp xs a).length ≤ 513 ∧ Hid (wr.ownsRow w.heap.size 3 1 x9 (holesUp xs a).length ((holesUp xs a).map (Value.int .i64))) ∧ Hid (Tset Tryz.prog 3 4 wr mb (3 * l.length) (fun k => decide (k ∈ xs))) ∧ Hid (Ext w wr)) (fun _ x31 _ => gn - (intOf x31).toNat)
      case atStart => exact ⟨0, Nat.zero_le _, rfl, by simp [holesUp], Lib.hid (World.ownsRow_nil _ _ _ _), HT, HX⟩
      case round =>
        clear HT HX
        obtain ⟨a, ha, rfl, hal, HO, HT, HX⟩ := hrel
        obtain ⟨H, hH⟩ : ∃ H, holesUp xs a = H := ⟨_, rfl⟩
        rw [hH] at hal HO
        have HH := Lib.hid hH
        clear hH
        obtain ⟨va, vc, rfl⟩ := own_shape HO.out
        by_cases hlt : a < gn
        · by_cases h5 : 512 < H.length
          · have HE := Lib.hid (holesUp_full (show a ≤ gn by omega) (show (holesUp xs a).length = 513 by rw [HH.out]; omega))
            go_wp2_with fail
            go_ret
            exact ⟨_, rfl, by rw [HGN.out, ← HE.out, HH.out]; exact Ints.of_own HO.out, HX.out⟩
          · have hlk := HT.out.look Tryz.underlying3 Tryz.underlying4 Tryz.underlying297 zeroB (k := (a : Int)) (by omega) (by omega)
            by_cases hm : (a : Int) ∈ xs
            · have HN := Lib.hid (show holesUp xs (a + 1) = H by rw [holesUp_succ, if_pos hm, HH.out])
              rw [show decide ((a : Int) ∈ xs) = true by simpa using hm] at hlk
              clear hm HH
              go_wp2_with fail
              go_roundw
              case rel => exact ⟨a + 1, by omega, by go_num, by rw [HN.out]; exact hal, Lib.hid (by rw [HN.out]; exact HO.out), HT, HX⟩
              case measure => simp [intOf]; omega
            · have HN := Lib.hid (show holesUp xs (a + 1) = H ++ [(a : Int)] by rw [holesUp_succ, if_neg hm, HH.out])
              rw [show decide ((a : Int) ∈ xs) = false by simpa using hm] at hlk
              clear hm HH
              have hsz := HX.out.size
              have HMB2 := Lib.hid (show some mb ≠ (Value.slice va H.length vc).ownBlock from fun e => own_not_set HO.out HT.out e.symm)
              go_wp2_with (at_builtin; refine wpList_appNw rfl _ _ 23 rfl slIntT rfl hsz HO.out rfl #[.int .i64 (a : Int)] rfl (by intro u hu; simp at hu; subst hu; rfl) rfl (by omega) (by omega) ?_; intro v3 w3 HO3 HG3 _; have HOx := Lib.hid HO3; have HTx := Lib.hid (HT.out.kept HG3 HMB2.out); have HXx := Lib.hid (Ext.own_grown HX.out HO.out HG3); clear HO3 HG3 hsz)
              go_roundw
              case rel => exact ⟨a + 1, by omega, by go_num, by rw [HN.out]; simp; omega, Lib.hid (by rw [HN.out]; simpa using HOx.out), HTx, HXx⟩
              case measure => simp [intOf]; omega
        · obtain rfl : a = gn := by omega
          have HE := Lib.hid (show H = (missL l).take 513 by rw [HGN.out, HH.out, List.take_of_length_le (by omega)])
          go_wp2_with fail
          go_ret
          exact ⟨_, rfl, by rw [← HE.out]; exact Ints.of_own HO.out, HX.out⟩
end Go.Proofs.YtnmjaddhbecopaaGreatDoor
end
