/- The document's sort of pairs, and whether two lists are the same ones: contracts. -/
import Derived.Test.YthjemncbphdomaaDoorG3
namespace Go.Att
open Go.RowKit
theorem flatP_one (l : List (Int × Int)) : ∀ u ∈ flatP l, u.oneCell' = true := by
  intro u hu
  simp only [flatP, List.mem_flatMap] at hu
  obtain ⟨c, _, hc⟩ := hu
  simp at hc
  rcases hc with rfl | rfl <;> rfl
theorem Prs.of_own {w : World} {B e n : Nat} {v : Value} {l : List (Int × Int)} (h : w.ownsRow B e 2 v n (flatP l)) : Prs w v l := by
  have hl : n = l.length := by have := h.1; rw [flatP_length] at this; omega
  subst hl
  exact Sl.of_own h (by omega)
theorem Ext.grown {w0 W w' : World} {e sz n : Nat} {v : Value} {xs : List Value} (hx : Ext w0 W) (hown : W.ownsRow w0.heap.size e sz v n xs) (hg : W.grownBy w' v.ownBlock) : Ext w0 w' :=
  Below.grown hx.below hg hx.size (fun k hk => (hown.lt k hk).1)
section
variable {P : Program} {ops : Array Oper} {rest : List Oper} {o : Oper} {a : Act} {Q : Exit → Act → World → Prop}
/-- A pair is stored into an element. -/
theorem wpList_setP {W : World} (hgd : o.guard = none) (hd : o.dst = none) (ad x : Operand) (e : Nat) (ho : o.op = .store e ad x) {t bytes : Nat} {z : Value} (ht : SlT P t e 2 bytes z) {B n : Nat} {v : Value} {l : List (Int × Int)} (hown : W.ownsRow B e 2 v n (flatP l)) (i : Nat) (hi : i < n)
    (ha : a.eval ad = .pointer (some (elt v i 2))) (y : Int × Int) (hx : a.eval x = .agg #[.int .i64 y.1, .int .i64 y.2])
    (h : ∀ w', w'.ownsRow B e 2 v n (flatP (l.set i y)) → W.grownBy w' v.ownBlock → wpList P ops Q rest a w') : wpList P ops Q (o :: rest) a W := by
  refine wpList_set hgd hd ad x e ho ht hown i hi ha _ hx rfl (fun u hu => ?_) (fun w' h1 h2 => h w' ?_ h2)
  · simp [Value.cells] at hu
    rcases hu with rfl | rfl <;> rfl
  · have hl : l.length = n := by have := hown.1; rw [flatP_length] at this; omega
    rw [← flatP_set (by omega)]; exact h1
/-- 'append(s, pair)' onto a slice of the call's own. -/
theorem wpList_appP {W : World} (hgd : o.guard = none) (s x : Operand) (t : TypeId)
    (ho : o.op = .call { callee := .builtin .append, args := #[s, x], argTypes := #[t, t] })
    {e bytes : Nat} {z : Value} (ht : SlT P t e 2 bytes z) (hz : z.cells.size = 2) {w0 : World} (hx0 : Ext w0 W) {v : Value} {n : Nat} {l : List (Int × Int)} (hown : W.ownsRow w0.heap.size e 2 v n (flatP l))
    (hs : a.eval s = v) {c d : Int} (hx : a.eval x = .slice (some ⟨W.heap.size, 0, none⟩) 1 1) (h63 : n + 1 ≤ 4294967296) (hby : bytes ≤ 4096)
    (h : ∀ v' w', w'.ownsRow w0.heap.size e 2 v' (n + 1) (flatP (l ++ [(c, d)])) → Ext w0 w' → W.grownBy w' v.ownBlock → wpList P ops Q rest (a.put o.dst v') w') : wpList P ops Q (o :: rest) a (W.alloc (.cells #[.int .i64 c, .int .i64 d] e)) := by
  refine wpList_appN hgd s x t ho ht hz hx0 hown hs #[.int .i64 c, .int .i64 d] rfl (fun u hu => ?_) hx h63 hby (fun v' w' h1 h2 h3 => h v' w' ?_ h2 h3)
  · simp at hu
    rcases hu with rfl | rfl <;> rfl
  · have e : flatP (l ++ [(c, d)]) = flatP l ++ [.int .i64 c, .int .i64 d] := by simp [flatP]
    rw [e]; exact h1
end
end Go.Att
namespace Go.Proofs.YthjemncbphdomaaDoor
open Go.RowKit Go.Att

set_option maxRecDepth 100000 in
set_option maxHeartbeats 4000000 in
theorem sorted_any (v : Value) (l : List (Int × Int)) (w : World) (hv : Prs w v l) (hs : l.length ≤ 4294967295) :
    Calls Tryd.prog 58 #[v] w (Gives w fun v' w' => ∃ l', Prs w' v' l' ∧ l'.Perm l ∧ Ord l' l'.length) := by
  have HV := Lib.hid hv; clear hv
  go_enter Tryd.func58, Tryd.ntmps58
  go_wp2_with (at_builtin; refine wpList_appSl rfl _ _ 22 rfl slCells rfl (Ext.alloc w _) (World.ownsRow_made w #[] 0 (Nat.le_refl _) (Nat.zero_le _) rfl) rfl (HV.out.ext (Ext.alloc w _)) (flatP_one _) rfl (by omega) (by omega) ?_; intro v1 w1 HO HX _)
  simp only [Nat.zero_add, List.nil_append] at HO
  go_loopw [4] (fun x4 wr => ∃ (i : Nat) (l1 : List (Int × Int)), x4 = .int .i64 i ∧ 1 ≤ i ∧ (i ≤ l.length ∨ i = 1) ∧ l1.length = l.length ∧ wr.ownsRow w.heap.size 29 2 v1 l.length (flatP l1) ∧ Ext w wr ∧ Hid (l1.Perm l ∧ Ord l1 i)) (fun x4 _ => l.length + 1 - (intOf x4).toNat)
  case atStart => exact ⟨1, l, rfl, Nat.le_refl _, .inr rfl, rfl, HO, HX, Lib.hid ⟨List.Perm.refl _, fun a b h1 h2 => by omega⟩⟩
  case round =>
    obtain ⟨i, l1, rfl, hi0, hi1, hlen, HO1, HX1, H⟩ := hrel
    have HL := Lib.hid hlen; clear hlen
    have hl1 := (Prs.of_own HO1).run_len (P := Tryd.prog) slCells
    rw [HL.out] at hl1
    by_cases hlt : i < l.length
    · go_wp2
      go_loopw [5] (fun x5 wr => ∃ (k : Nat) (l2 : List (Int × Int)), x5 = .int .i64 k ∧ k ≤ i ∧ wr.ownsRow w.heap.size 29 2 v1 l.length (flatP l2) ∧ Ext w wr ∧ Hid (l2.length = l.length ∧ l2.Perm l ∧ Ins l2 k i)) (fun x5 _ => (intOf x5).toNat)
      case atStart => exact ⟨i, l1, rfl, Nat.le_refl _, HO1, HX1, Lib.hid ⟨HL.out, H.out.1, H.out.2.ins⟩⟩
      case round =>
        obtain ⟨k, l2, rfl, hk1, HO2, HX2, H2⟩ := hrel
        have HL2 := Lib.hid H2.out.1
        by_cases hk0 : 0 < k
        · have hik := (Prs.of_own HO2).run_index (P := Tryd.prog) slCells k (by rw [HL2.out]; omega)
          have hik1 := (Prs.of_own HO2).run_index (P := Tryd.prog) slCells (k - 1) (by rw [HL2.out]; omega)
          rw [show ((k - 1 : Nat) : Int) = (k : Int) - 1 by omega] at hik1
          have c1 := (Prs.of_own HO2).fst k (by rw [HL2.out]; omega)
          have c2 := (Prs.of_own HO2).snd k (by rw [HL2.out]; omega)
          have d1 := (Prs.of_own HO2).fst (k - 1) (by rw [HL2.out]; omega)
          have d2 := (Prs.of_own HO2).snd (k - 1) (by rw [HL2.out]; omega)
          have hw : IntKind.i64.wrap ((k : Int) - 1) = (k : Int) - 1 := IntWalk.i64_in _ (by omega)
          clear hl1
          by_cases hb : ltP (nthP l2 k) (nthP l2 (k - 1))
          · have HB : Hid (ltB (nthP l2 k) (nthP l2 (k - 1)) = true) := decide_eq_true hb
            have HS := Lib.hid (Ins.step H2.out.2.2 hk0 hk1 (by rw [HL2.out]; omega) hb); clear hb
            go_wp2_with fail
            go_still_tail 9, (by kernel_rfl)
            change wpList _ _ _ _ _ wr.drew
            go_wp2_with (first | (go_at_call 137; refine (ahead_any _ _ _).mono ?_; rintro e w2 ⟨rfl, hx2⟩; rw [HB.out]; replace hx2 := (Ext.drew wr).trans hx2; replace HO2 := own_ext HO2 hx2; replace HX2 := HX2.trans hx2; replace c1 := hx2.cell c1; replace c2 := hx2.cell c2; have d3 := (Ext.alloc w2 (Obj.cells #[.int .i64 (nthP l2 k).1, .int .i64 (nthP l2 k).2] 29)).cell (hx2.cell d1); have d4 := (Ext.alloc w2 (Obj.cells #[.int .i64 (nthP l2 k).1, .int .i64 (nthP l2 k).2] 29)).cell (hx2.cell d2); clear hx2 d1 d2) | (refine wpList_setP rfl rfl _ _ _ rfl slCells (own_ext HO2 (Ext.alloc _ _)) k (by omega) rfl (nthP l2 (k - 1)) rfl ?_; intro w3 HO3 HG3; have hne : some w2.heap.size ≠ v1.ownBlock := (fun e => Nat.lt_irrefl _ (HO2.lt _ e.symm).2); have e1 := HG3.cell (a := ⟨w2.heap.size, 0, none⟩) (show _ = some (Value.int .i64 (nthP l2 k).1) by simp) hne; have e2 := HG3.cell (a := ⟨w2.heap.size, 1, none⟩) (show _ = some (Value.int .i64 (nthP l2 k).2) by simp) hne; have HX3 := Ext.grown (HX2.trans (Ext.alloc _ _)) (own_ext HO2 (Ext.alloc _ _)) HG3; clear HG3 hne d3 d4) | (refine wpList_setP rfl rfl _ _ _ rfl slCells HO3 (k - 1) (by omega) rfl (nthP l2 k) rfl ?_; intro w4 HO4 HG4))
            go_roundw
            case rel => exact ⟨k - 1, swapP l2 k, by congr 1; omega, by omega, HO4, Ext.grown HX3 HO3 HG4, Lib.hid ⟨by rw [swapP_length]; exact HL2.out, (perm_swap hk0 (by rw [HL2.out]; omega)).trans H2.out.2.1, HS.out⟩⟩
            case measure => simp [intOf]; omega
          · have HB : Hid (ltB (nthP l2 k) (nthP l2 (k - 1)) = false) := decide_eq_false hb
            have HS := Lib.hid (Ins.stop H2.out.2.2 hk0 hk1 hb); clear hb
            go_wp2_with fail
            go_still_tail 9, (by kernel_rfl)
            change wpList _ _ _ _ _ wr.drew
            go_wp2_with (go_at_call 137; refine (ahead_any _ _ _).mono ?_; rintro e w2 ⟨rfl, hx2⟩; rw [HB.out]; replace hx2 := (Ext.drew wr).trans hx2)
            go_roundw
            case rel => exact ⟨i + 1, l2, by go_num, by omega, .inl (by omega), HL2.out, own_ext HO2 hx2, HX2.trans hx2, Lib.hid ⟨H2.out.2.1, HS.out⟩⟩
            case measure => simp [intOf]; omega
        · obtain rfl : k = 0 := by omega
          have HS := Lib.hid (Ins.zero H2.out.2.2)
          go_wp2_with fail
          go_roundw
          case rel => exact ⟨i + 1, l2, by go_num, by omega, .inl (by omega), HL2.out, HO2, HX2, Lib.hid ⟨H2.out.2.1, HS.out⟩⟩
          case measure => simp [intOf]; omega
    · go_wp2_with fail
      go_ret
      exact .mk _ rfl HX1 ⟨l1, Prs.of_own HO1, H.out.1, fun a b h1 h2 => H.out.2 a b h1 (by have := HL.out; omega)⟩
end Go.Proofs.YthjemncbphdomaaDoor
