/- A region that draws its order, in a round of a range over a function: its first n operations are quiet, the others stand in one order: the text's order serves for all. No program in sight. Every part of a part: Every, parts and its closure: contracts. -/
import Derived.Test.YtejkepihicphlaaGreatDoorQt
import Derived.RangeFuncNested
import Derived.RangeFuncBound
import Derived.RangeFuncCalls
import Derived.RangeFuncLeaves
import Derived.OrdersIn
import Derived.TacticsIn
import Derived.Test.YtejkepihicphlaaGreatDoorSsj
import Derived.Shelf.Abstract
import Derived.WalkKit
import Derived.OwnWalkIn
import Derived.TacticsInMore
import Derived.LoopNIn
import Derived.LoopIn
section
namespace Go
section
variable {P : Program} {l : List Oper} {n : Nat} {C : World → Prop}
end
end Go
end
section
namespace Go.Att
open Go.RowKit
theorem room_none {F : Fence} (hd : F.depth = none) (k : Nat) : F.room k := fun d h => by rw [hd] at h; cases h
theorem round_any {F : Fence} (hd : F.depth = none) {m m' : Nat} {P : Program} {l : Nat} {f : FuncId} {tmps : Array Value} {assign body : Code} {w : World} {R : Ending → World → Prop}
    (h : RoundIn F m P l f tmps assign body w R) : RoundIn F m' P l f tmps assign body w R := ⟨h.1, fun c cs _ => h.2 c cs (room_none hd _)⟩
theorem yield_any {F : Fence} (hd : F.depth = none) {m : Nat} (m' : Nat) {P : Program} {l : Nat} {args : Array Value} {W : World} {R : Ending → World → Prop} (h : YieldAt F m P l args W R) : YieldAt F m' P l args W R := by
  obtain ⟨fn, tmps, assign, body, hy, hR⟩ := h
  exact ⟨fn, tmps, assign, body, hy, round_any hd hR⟩
theorem sum_mem1 {l : List Nat} {x : Nat} (h : x ∈ l) : x ≤ l.sum := by
  induction l with
  | nil => cases h
  | cons a r ih =>
    rw [List.sum_cons]
    rcases List.mem_cons.mp h with e | e
    · omega
    · have := ih e; omega
theorem len_wei (ks : List Tr) : ks.length ≤ (ks.map weiT).sum := by
  induction ks with
  | nil => exact Nat.le_refl 0
  | cons t r ih => cases t; rw [List.map_cons, List.sum_cons, List.length_cons, weiT_mk]; omega
section
variable {w w' : World} {T E : TypeId} {t : Tr} {lo hi : Nat} {v : Value}
theorem own_below {B e sz n : Nat} {xs : List Value} (h : w.ownsRow B e sz v n xs) (hb : Below hi w w') (hA : ∀ A, v.ownBlock = some A → A < hi) : w'.ownsRow B e sz v n xs := by
  refine ⟨h.1, ?_⟩
  rcases h.2 with h2 | ⟨g, cap, cur, hv, hbg, hgg, hr⟩
  · exact .inl h2
  · subst hv
    exact .inr ⟨g, cap, cur, rfl, hbg, by rw [hb.block g (hA g rfl)]; exact hgg, hr⟩
theorem trAt.below (h : trAt T E t lo hi w v) (hb : Below hi w w') : trAt T E t lo hi w' v := by
  induction t using Tr.ind generalizing v with
  | h kd n s ks p ih =>
    obtain ⟨q, kv, vs, h1, h2, h3, h4, h5, h6, h7⟩ := trAt_mk.mp h
    refine trAt_mk.mpr ⟨q, kv, vs, h1, h2, h3, ?_, own_below h5 hb h6, h6, h7.imp fun x t ht hx => ih t ht hx⟩
    unfold BlkOf at *
    rw [hb.block q h3]; exact h4
end
end Go.Att
namespace Go.Proofs.YtejkepihicphlaaGreatDoor
open Go.RowKit Go.Att Go.Shelf
attribute [local go_sem] Oper.semAt_some
set_option maxRecDepth 100000 in
set_option maxHeartbeats 4000000 in
theorem severy_in (l lo hi N : Nat) (J Jx : List Value → World → Prop)
    (hY : ∀ m pre x W, J pre W → pre.length < N → YieldAt Fence.wide m Tryz.prog l #[x] W fun e W' =>
      (e = .returned (.bool true) ∧ J (pre ++ [x]) W' ∧ Below hi W W') ∨ (e = .returned (.bool false) ∧ Jx (pre ++ [x]) W')) (t : Tr) :
    ∀ (n : Nat) (v : Value) (pre : List Value) (W : World), trAt 161 83 t lo hi W v → J pre W → pre.length + weiT t ≤ N → weiT t ≤ 4000 →
      CallsIn Fence.wide n Tryz.prog 72 #[v, .func (.yield l) #[] #[]] W fun e W' =>
        (e = .returned (.bool true) ∧ (∃ xs, xs.length = weiT t ∧ J (pre ++ xs) W') ∧ Below hi W W') ∨ (e = .returned (.bool false) ∧ ∃ xs, Jx (pre ++ xs) W') := by
  induction t using Tr.ind with
  | h kd num s ks p ih =>
    intro n v pre W hT hJ hN hw
    rw [weiT_mk] at hN hw
    obtain ⟨q, kv, vs, rfl, hlq, hqh, hb, ho, hkA, he⟩ := trAt_mk.mp hT
    have hks := len_wei ks
    have hs := Sl.of_own ho (by omega)
    have hl := Sl.run_len (P := Tryz.prog) hs slParts
    have HIX : Hid (∀ i : Nat, i < ks.length → ∀ W : World, (Instr.indexAt 159 kv (.int .i64 i)).run Tryz.prog W = .ok (.pointer (some (elt kv i 1))) W) := Lib.hid (fun i hi W => Sl.run_index hs slParts i (by omega) (by omega) W)
    have HKID : Hid (∀ (i : Nat) (t : Tr), ks[i]? = some t → ∃ u, (∀ W', Below hi W W' → W'.cell? (elt kv i 1) = some u) ∧ ∀ (n : Nat) (xs : List Value) (W' : World), Below hi W W' → J xs W' → xs.length + weiT t ≤ N →
        CallsIn Fence.wide n Tryz.prog 72 #[u, .func (.yield l) #[] #[]] W' fun e W2 =>
          (e = .returned (.bool true) ∧ (∃ ys, ys.length = weiT t ∧ J (xs ++ ys) W2) ∧ Below hi W' W2) ∨ (e = .returned (.bool false) ∧ ∃ ys, Jx (xs ++ ys) W2)) := Lib.hid (fun i t hit => by
      obtain ⟨u, hu, hx⟩ := each_nth he hit
      have hlt : i < ks.length := (List.getElem?_eq_some_iff.1 hit).1
      have hm := List.mem_of_getElem? hit
      have hle : weiT t ≤ (ks.map weiT).sum := sum_mem1 (List.mem_map_of_mem hm)
      exact ⟨u, fun W' hb' => sl_cell1 (Sl.of_own (own_below ho hb' hkA) (by omega)) hlt hu, fun n xs W' hb' hj hn => ih t hm n u xs W' (hx.below hb') hj hn (by omega)⟩)
    have HB := Lib.hid hb
    have HY := Lib.hid hY
    have hYq := hY (n - 1) pre (.pointer (some ⟨q, 0, none⟩)) W hJ (by omega)
    obtain ⟨fn, tmps, assign, body, hy, hR⟩ := hYq
    clear hb ih hT ho he hs hJ hY
    refine callsIn_of_wp Tryz.func72 rfl trivial ?_ rfl
    simp only [Tryz.ntmps72, List.size_toArray, List.length_cons, List.length_nil, Nat.reduceAdd, Nat.reduceSub, Array.replicate_succ, Array.replicate_zero, List.push_toArray, List.append_toArray, List.nil_append, List.cons_append]
    gi_wp2
    refine ⟨fun h => (by cases h), ?_⟩
    refine hR.mono ?_
    rintro e w1 (⟨rfl, hJ1, hk1⟩ | ⟨rfl, hx1⟩)
    · have HJ1 := Lib.hid (show ∃ xs : List Value, xs.length = 1 + ((ks.take 0).map weiT).sum ∧ J (pre ++ xs) w1 from ⟨[.pointer (some ⟨q, 0, none⟩)], rfl, hJ1⟩)
      have HK1 := Lib.hid hk1
      have h3 : w1.cell? ⟨q, 3, none⟩ = some kv := by rw [hk1.cell (p := ⟨q, 3, none⟩) hqh]; exact HB.out.cell 3
      clear hJ1 hk1 hR hy
      gi_wp2
      clear h3
      gi_loopw [6, 16] (fun _ x16 wr => ∃ j : Nat, j ≤ ks.length ∧ x16 = .int .i64 j ∧ Hid (∃ xs : List Value, xs.length = 1 + ((ks.take j).map weiT).sum ∧ J (pre ++ xs) wr) ∧ Hid (Below hi W wr)) (fun _ x16 _ => ks.length - (intOf x16).toNat)
      case atStart => exact ⟨0, Nat.zero_le _, rfl, HJ1, HK1⟩
      case round =>
        clear HJ1 HK1
        obtain ⟨j, hj, rfl, HJ, HK⟩ := hrel
        by_cases hlt : j < ks.length
        · have hix := HIX.out j hlt
          obtain ⟨t, ht⟩ : ∃ t, ks[j]? = some t := ⟨_, List.getElem?_eq_getElem hlt⟩
          obtain ⟨u, hcu, hcall⟩ := HKID.out j t ht
          have hcell := hcu wr HK.out
          have HT := Lib.hid ht
          obtain ⟨xs, hxl, hJs⟩ := HJ.out
          have hsum : ((ks.take (j + 1)).map weiT).sum = ((ks.take j).map weiT).sum + weiT t := by rw [List.take_add_one, ht]; simp
          have hsle : ((ks.take (j + 1)).map weiT).sum ≤ (ks.map weiT).sum := by
            conv => rhs; rw [← List.take_append_drop (j + 1) ks]
            rw [List.map_append, List.sum_append]; omega
          have hc := hcall (n - 1) (pre ++ xs) wr HK.out hJs (by rw [List.length_append]; omega)
          have HXL := Lib.hid hxl; have HSUM := Lib.hid hsum
          clear hcall hcu ht hJs hxl hsum hsle HJ
          gi_wp2_with (refine ⟨trivial, fun h => (by cases h), ?_⟩; gi_at_call 72; refine hc.mono ?_; clear hc; rintro e w2 (⟨rfl, hJ2, hk2⟩ | ⟨rfl, hx2⟩))
          · obtain ⟨ys, hyl, hJ3⟩ := hJ2
            have HJ3 := Lib.hid (show ∃ zs : List Value, zs.length = 1 + ((ks.take (j + 1)).map weiT).sum ∧ J (pre ++ zs) w2 from ⟨xs ++ ys, by rw [HSUM.out, List.length_append, HXL.out, hyl]; omega, by rw [← List.append_assoc]; exact hJ3⟩)
            have HK3 := Lib.hid (HK.out.trans hk2)
            clear hJ3 hyl hk2 hcell hix
            go_roundw
            case rel => exact ⟨j + 1, hlt, by push_cast; rfl, HJ3, HK3⟩
            case measure => simp [intOf]; omega
          · have HX := Lib.hid hx2
            clear hx2 hcell hix
            go_ret
            obtain ⟨ys, hx⟩ := HX.out
            exact .inr ⟨rfl, xs ++ ys, by rw [← List.append_assoc]; exact hx⟩
        · obtain rfl : j = ks.length := by omega
          gi_wp2
          go_ret
          refine .inl ⟨rfl, ?_, HK.out⟩
          rw [weiT_mk]
          have := HJ.out
          rw [List.take_length] at this
          exact this
    · clear hR hy
      have HX := Lib.hid hx1
      clear hx1
      gi_wp2
      go_ret
      exact .inr ⟨rfl, _, HX.out⟩
set_option maxHeartbeats 1000000 in
theorem parts_any (a : Option Addr) (w : World) :
    Calls Tryz.prog 31 #[.pointer a] w fun e w' => e = .returned (.func (.func 71) #[] #[.pointer (some ⟨w.heap.size, 0, none⟩)]) ∧ w' = w.alloc (.cells #[.pointer a] 83) := by
  go_enter Tryz.func31, Tryz.ntmps31
  go_wp2_with fail
  go_ret
  exact ⟨rfl, rfl⟩
set_option maxHeartbeats 1000000 in
theorem parts_stops {w : World} {B lo hi : Nat} {v : Value} {t : Tr} (hB : w.cell? ⟨B, 0, none⟩ = some v) (hT : trAt 161 83 t lo hi w v) (hh : hi ≤ w.heap.size) (hw : weiT t ≤ 4000) (n : Nat) :
    SeqStopsK Fence.wide n Tryz.prog 71 #[.pointer (some ⟨B, 0, none⟩)] (fun x : Value => #[x]) (Below hi) (fun xs => xs.length = weiT t) (fun _ => True) (weiT t) w := by
  intro l J Jx W hW _ _ hY h0
  have h := severy_in l lo hi (weiT t) J Jx (fun m pre x W hj hl => yield_any rfl m (hY pre x W hj hl)) t (n - 1) v [] W (hT.below (hW.mono hh)) h0 (by simp) hw
  have hc : W.cell? ⟨B, 0, none⟩ = some v := (show Ext w W from hW).cell hB
  clear hY h0 hW hT hB
  refine callsIn_of_wp Tryz.func71 rfl trivial ?_ rfl
  simp only [Tryz.ntmps71, List.size_toArray, List.length_cons, List.length_nil, Nat.reduceAdd, Nat.reduceSub, Array.replicate_succ, Array.replicate_zero, List.push_toArray, List.append_toArray, List.nil_append, List.cons_append]
  gi_wp2_with (refine ⟨trivial, fun h => (by cases h), ?_⟩; gi_at_call 72; refine h.mono ?_; clear h; rintro e W1 (⟨rfl, hJ1, _⟩ | ⟨rfl, hx1⟩))
  · obtain ⟨xs, hl, hj⟩ := hJ1
    have HJ := Lib.hid hj
    clear hj
    go_end0
    exact ⟨⟨_, rfl⟩, .inl ⟨xs, hl, by simpa using HJ.out⟩⟩
  · have HX := Lib.hid hx1
    clear hx1
    go_end0
    obtain ⟨ys, hx⟩ := HX.out
    exact ⟨⟨_, rfl⟩, .inr ⟨ys, trivial, by simpa using hx⟩⟩
end Go.Proofs.YtejkepihicphlaaGreatDoor
end
