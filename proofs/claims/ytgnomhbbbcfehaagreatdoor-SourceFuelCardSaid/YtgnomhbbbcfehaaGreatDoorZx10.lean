/- The function of a name: Find: contract. What names stand for, in a map's block; a walker's block; what a look leaves as it was: words. -/
import Derived.Test.YtgnomhbbbcfehaaGreatDoorSsi
import Derived.Test.YtgnomhbbbcfehaaGreatDoorZx8
import Derived.Test.YtgnomhbbbcfehaaGreatDoorZx9
section
namespace Go.Att
def FoundAt (fs : List Fn) (P : Fn → Bool) (r : Int) : Prop := r = match fs.findIdx? P with
  | some i => (i : Int)
  | none => -1
theorem find_at {fs : List Fn} {P : Fn → Bool} {i : Nat} {f : Fn} (H : ∀ g ∈ fs.take i, P g = false) (hf : fs[i]? = some f) (hp : P f = true) : fs.findIdx? P = some i := by
  obtain ⟨hi, rfl⟩ := List.getElem?_eq_some_iff.1 hf
  rw [List.findIdx?_eq_some_iff_getElem]
  refine ⟨hi, hp, fun j hj => ?_⟩
  have := H (fs[j]'(by omega)) (by rw [List.mem_take_iff_getElem]; exact ⟨j, by omega, rfl⟩)
  rw [this]; simp
theorem find_idx {fs : List Fn} {P : Fn → Bool} {f : Fn} (h : fs.find? P = some f) : ∃ i, fs.findIdx? P = some i ∧ fs[i]? = some f := by
  induction fs with
  | nil => cases h
  | cons a r ih =>
    rw [List.find?_cons] at h
    cases e : P a with
    | true => rw [e] at h; cases h; exact ⟨0, by rw [List.findIdx?_cons, e]; rfl, rfl⟩
    | false =>
      rw [e] at h
      obtain ⟨i, h1, h2⟩ := ih h
      exact ⟨i + 1, by rw [List.findIdx?_cons, e, h1]; rfl, h2⟩
end Go.Att
namespace Go.Proofs.YtgnomhbbbcfehaaGreatDoor
open Go.RowKit Go.Att Go.Shelf
section
variable {w : World}
set_option maxRecDepth 100000 in
set_option maxHeartbeats 1000000 in
theorem ffind_any {v : Value} {fs : List Att.Fn} {lo hi : Nat} (hv : fsAt fs lo hi w v) (fid : FuncId) (c1 : Value) (P : Att.Fn → Bool) (hfid : ∀ (xs : Array Value) (W : World), (callFunc fid xs).run Tryz.prog W = .ok (.enter fid xs) W)
    (hc : ∀ (W : World) (u : Value) (f : Att.Fn), Ext w W → fnAt f lo hi W u → Calls Tryz.prog fid #[u, c1] W (Rd W (.bool (P f)))) :
    Calls Tryz.prog 67 #[v, .func (.func fid) #[] #[c1]] w (RdI w fun r => FoundAt fs P r) := by
  obtain ⟨vs, h1, -, -⟩ := id hv
  have hs := Sl.of_own h1 (by omega)
  have hl := Sl.run_len (P := Tryz.prog) hs slFns
  have HIX : Hid (∀ i : Nat, i < fs.length → ∀ W : World, (Instr.indexAt 69 v (.int .i64 i)).run Tryz.prog W = .ok (.pointer (some (elt v i 1))) W) := Lib.hid (fun i hi W => Sl.run_index hs slFns i (by omega) (by omega) W)
  have hlen : fs.length ≤ 9223372036854775807 := by have := Sl.len hs; unfold maxLen at this; omega
  have HV := Lib.hid hv; have HC := Lib.hid hc
  clear hv hc h1 hs
  go_enter Tryz.func67, Tryz.ntmps67
  go_wp2
  go_loopw [5, 8] (fun _ x8 wr => ∃ i : Nat, i ≤ fs.length ∧ x8 = .int .i64 i ∧ Hid (∀ f ∈ fs.take i, P f = false) ∧ Hid (∃ m, wr = w.drewN m)) (fun _ x8 _ => fs.length - (intOf x8).toNat)
  case atStart => exact ⟨0, Nat.zero_le _, rfl, Lib.hid (fun f hf => by simp at hf), Lib.hid ⟨0, rfl⟩⟩
  case round =>
    obtain ⟨i, hi, rfl, H, HM⟩ := hrel
    obtain ⟨m, hm⟩ := HM.out
    have HX := Lib.hid (show Ext w wr from by rw [hm]; exact Ext.drewN _ _)
    clear hm
    by_cases hlt : i < fs.length
    · have hix := HIX.out i hlt
      obtain ⟨f, hf⟩ : ∃ f, fs[i]? = some f := ⟨_, List.getElem?_eq_getElem hlt⟩
      obtain ⟨u, hfa, hcu⟩ := HV.out.nth hf
      have hcell := hcu wr HX.out
      have HCI := Lib.hid (HC.out wr u f HX.out (hfa.ext HX.out))
      have HT := Lib.hid (show fs.take (i + 1) = fs.take i ++ [f] by rw [List.take_add_one, hf]; rfl)
      have HF := Lib.hid hf
      clear hfa hcu hf
      cases he : P f with
      | false =>
        have HE := Lib.hid he
        rw [he] at HCI
        clear he
        go_wp2_with fail
        refine HCI.out.mono ?_
        rintro e w' ⟨rfl, m2, rfl⟩
        go_wp2_with fail
        go_roundw
        case rel => exact ⟨i + 1, by omega, by go_num, Lib.hid (fun g hg => by
            rw [HT.out] at hg
            rcases List.mem_append.mp hg with h | h
            · exact H.out g h
            · rw [List.mem_singleton.mp h]; exact HE.out), Lib.hid (by obtain ⟨m, hm⟩ := HM.out; exact ⟨m + m2, by rw [hm]; show World.drewN (World.drewN w m) m2 = _; simp [World.drewN, Nat.add_assoc]⟩)⟩
        case measure => simp [intOf]; omega
      | true =>
        have HA := Lib.hid (show FoundAt fs P i from by unfold FoundAt; rw [find_at H.out HF.out he])
        rw [he] at HCI
        clear he
        go_wp2_with fail
        refine HCI.out.mono ?_
        rintro e w' ⟨rfl, m2, rfl⟩
        go_wp2_with fail
        go_ret
        exact ⟨i, HA.out, rfl, by obtain ⟨m, hm⟩ := HM.out; exact ⟨m + m2, by rw [hm]; show World.drewN (World.drewN w m) m2 = _; simp [World.drewN, Nat.add_assoc]⟩⟩
    · obtain rfl : i = fs.length := by omega
      have HA := Lib.hid (show FoundAt fs P (-1) from by
        unfold FoundAt
        rw [List.findIdx?_eq_none_iff.2 fun l hl => H.out l (by rw [List.take_length]; exact hl)])
      go_wp2_with fail
      go_ret
      exact ⟨-1, HA.out, rfl, HM.out⟩
set_option maxHeartbeats 1000000 in
theorem named_fit {f : Att.Fn} {lo hi c : Nat} {u : Value} {s : List UInt8} (hf : fnAt f lo hi w u) (hc : w.cell? ⟨c, 0, none⟩ = some (.string ⟨s.toArray⟩)) :
    Calls Tryz.prog 68 #[u, .pointer (some ⟨c, 0, none⟩)] w (Rd w (.bool (f.name == s))) := by
  obtain ⟨q1, nv, bv, av, rfl, -, -, hb, hn, -, -, -, -⟩ := hf
  have f0 : w.cell? ⟨q1, 0, none⟩ = some (.string ⟨f.name.toArray⟩) := hb.cell 0
  clear hb hn
  generalize f.name = t at *
  cases he : (t == s) with
  | true =>
    go_enter Tryz.func68, Tryz.ntmps68
    go_upto_region 1 with fail
    go_quiet (fail)
    go_wp2_with fail
    go_ret
    exact Rd.more _ (ret_bool (by simp))
  | false =>
    go_enter Tryz.func68, Tryz.ntmps68
    go_upto_region 1 with fail
    go_quiet (fail)
    go_wp2_with fail
    go_ret
    exact Rd.more _ (ret_bool (by simp))
set_option maxRecDepth 100000 in
set_option maxHeartbeats 2000000 in
theorem sfind_at {fs : List Att.Fn} {lo hi pb : Nat} {fv : Value} (hp : BlkOf w pb [fv] 71) (hfs : fsAt fs lo hi w fv) (s : List UInt8) {f : Att.Fn} (hff : findF fs s = some f) :
    ∃ u, fnAt f lo hi w u ∧ ∀ W, Ext w W → Calls Tryz.prog 31 #[.pointer (some ⟨pb, 0, none⟩), .string ⟨s.toArray⟩] W fun e w' => e = .returned u ∧ Ext W w' := by
  obtain ⟨i, hidx, hfi⟩ := find_idx hff
  obtain ⟨u, hu, hcu⟩ := hfs.nth hfi
  refine ⟨u, hu, fun W hW => ?_⟩
  obtain ⟨vs, h1, -, -⟩ := id hfs
  have hs := Sl.of_own h1 (by omega)
  have hil := (List.getElem?_eq_some_iff.1 hfi).1
  have hix : ∀ W : World, (Instr.indexAt 69 fv (.int .i64 i)).run Tryz.prog W = .ok (.pointer (some (elt fv i 1))) W := fun W => Sl.run_index hs slFns i (by omega) (by omega) W
  have hx := Ext.alloc W (.cells #[.string ⟨s.toArray⟩] 9)
  have p0 : (W.alloc (.cells #[.string ⟨s.toArray⟩] 9)).cell? ⟨pb, 0, none⟩ = some fv := (hW.trans hx).cell (hp.cell 0)
  have hc0 := cell_new W #[.string ⟨s.toArray⟩] 9 0
  have HF := Lib.hid (ffind_any (hfs.ext (hW.trans hx)) 68 (.pointer (some ⟨W.heap.size, 0, none⟩)) (fun f => f.name == s) (fun xs W => rfl) (fun W u f hX hf => named_fit hf (hX.cell hc0)))
  have HX := Lib.hid hx; have HP := Lib.hid hp; have HCU := Lib.hid hcu; have HW := Lib.hid hW
  have HI := Lib.hid hidx; have HL := Lib.hid hil
  clear hfs hx hc0 hp h1 hs hu hcu hW hidx hfi hil
  go_enter Tryz.func31, Tryz.ntmps31
  go_wp2_with fail
  refine HF.out.mono ?_
  rintro e w' ⟨r, hr, rfl, m, rfl⟩
  have HX2 := Lib.hid (HX.out.trans (Ext.drewN _ m))
  have hr2 : r = (i : Int) := by have h2 : FoundAt fs (fun f => f.name == s) r := hr; unfold FoundAt at h2; rw [HI.out] at h2; exact h2
  clear hr HF p0
  subst hr2
  have hi0 : (0 : Int) ≤ (i : Int) := by omega
  generalize (W.alloc (Obj.cells #[.string ⟨s.toArray⟩] 9)).drewN m = w2 at *
  have p0 : w2.cell? ⟨pb, 0, none⟩ = some fv := (HW.out.trans HX2.out).cell (HP.out.cell 0)
  have hcell := HCU.out w2 (HW.out.trans HX2.out)
  go_wp2_with fail
  go_ret
  exact ⟨rfl, HX2.out⟩
end
end Go.Proofs.YtgnomhbbbcfehaaGreatDoor
end
section
namespace Go.Att
open Go.Maps Go.RowKit
structure ValN {H : Type} (D : DataW H) (m : Env) : Prop where
  isMap : IsMap D
  yes : ∀ k v, m k = some v → ∀ z : DataW H, D.atKey (.string k) z = .lit (.int .i64 v)
  no : ∀ k, m k = none → ∀ z : DataW H, D.atKey (.string k) z = z
def Env.del (m : Env) (s : List UInt8) : Env := fun j => if j = s then none else m j
theorem Env.del_put {m : Env} {s : List UInt8} (h : m s = none) (v : Int) : (m.put s v).del s = m := by
  funext j
  unfold Env.del Env.put
  by_cases e : j = s
  · subst e; rw [if_pos rfl]; exact h.symm
  · rw [if_neg e, if_neg e]
theorem ValN.nil {H : Type} : ValN (.map [] : DataW H) (fun _ => none) := ⟨isMap_empty, fun _ _ h => (nomatch h), fun _ _ _ => rfl⟩
theorem ValN.put {H : Type} {D : DataW H} {m : Env} (h : ValN D m) {k : List UInt8} (hk : WideAt.IsKeyLit (Lit.string k)) (v : Int) : ValN (D.put (.string k) (.lit (.int .i64 v))) (m.put k v) := by
  refine ⟨h.isMap.put _ _, fun j u hj z => ?_, fun j hj z => ?_⟩
  · by_cases e : j = k
    · subst e
      unfold Env.put at hj; rw [if_pos rfl] at hj
      cases hj
      exact atKey_put_same h.isMap hk _ _
    · rw [atKey_put_other (lit_nm e)]
      unfold Env.put at hj; rw [if_neg e] at hj
      exact h.yes j u hj z
  · by_cases e : j = k
    · unfold Env.put at hj; rw [if_pos e] at hj; cases hj
    · rw [atKey_put_other (lit_nm e)]
      unfold Env.put at hj; rw [if_neg e] at hj
      exact h.no j hj z
theorem ValN.del {H : Type} {D : DataW H} {m : Env} (h : ValN D m) (k : List UInt8) : ValN (D.del (.string k)) (m.del k) := by
  refine ⟨h.isMap.del _, fun j u hj z => ?_, fun j hj z => ?_⟩
  · by_cases e : j = k
    · unfold Env.del at hj; rw [if_pos e] at hj; cases hj
    · rw [atKey_del_other (lit_nm e)]
      unfold Env.del at hj; rw [if_neg e] at hj
      exact h.yes j u hj z
  · by_cases e : j = k
    · subst e; exact atKey_del_same z
    · rw [atKey_del_other (lit_nm e)]
      unfold Env.del at hj; rw [if_neg e] at hj
      exact h.no j hj z
def Mpi (P : Program) (K B : TypeId) (w : World) (mb : Nat) (n : Nat) (m : Env) : Prop := ∃ (c : Nat) (D : DataW Unit), c ≤ n ∧ w.ownsMap P K (plainElem P B) mb c D ∧ ValN D m
section
variable {P : Program} {K B T : TypeId} {w w' : World} {mb n : Nat} {m : Env}
theorem Mpi.lt (h : Mpi P K B w mb n m) : mb < w.heap.size := by obtain ⟨c, D, _, h2, _⟩ := h; exact h2.lt
theorem Mpi.kept (h : Mpi P K B w mb n m) {row : Option Nat} (hg : w.grownBy w' row) (hne : some mb ≠ row) : Mpi P K B w' mb n m := by
  obtain ⟨c, D, h1, h2, h3⟩ := h; exact ⟨c, D, h1, h2.kept hg hne, h3⟩
theorem Mpi.mono (h : Mpi P K B w mb n m) {k : Nat} (hm : n ≤ k) : Mpi P K B w mb k m := by
  obtain ⟨c, D, h1, h2, h3⟩ := h; exact ⟨c, D, Nat.le_trans h1 hm, h2, h3⟩
theorem Mpi.made (w : World) : Mpi P K B (w.alloc (.map #[] 0)) w.heap.size 0 (fun _ => none) := ⟨0, .map [], Nat.le_refl _, World.ownsMap_made _ _ _ _, ValN.nil⟩
theorem Mpi.ext (h : Mpi P K B w mb n m) (hx : Ext w w') : Mpi P K B w' mb n m := h.kept (hx.grownBy none) (by simp)
variable (hk : P.underlying K = some .string) (hb : P.underlying B = some (.int .i64)) (ht : P.underlying T = some (.map K B))
include hk hb ht
theorem Mpi.look (hz : ∀ w, (zeroValue B).run P w = .ok (.int .i64 0) w) (h : Mpi P K B w mb n m) {s : List UInt8} (hs : s.length ≤ 4000) : (Instr.lookup T (.map (some mb)) (.string ⟨s.toArray⟩) false).run P w = .ok (.int .i64 (m.get s)) w := by
  obtain ⟨c, D, _, h2, h3⟩ := h
  obtain ⟨v, hr, hv, _⟩ := h2.lookup_int (string_keyed hk) ht hb (hz w) (nm_key hk hs)
  have e : D.atKey (.string s) (.lit (.int .i64 0)) = .lit (.int .i64 (m.get s)) := by
    unfold Env.get
    cases hs : m s with
    | some v => exact h3.yes s v hs _
    | none => exact h3.no s hs _
  rw [e] at hv
  injection hv with hv
  injection hv with _ hv
  rw [hv]; exact hr
theorem Mpi.put (h : Mpi P K B w mb n m) (hn : n < 1000000000) {s : List UInt8} (hs : s.length ≤ 4000) {v : Int} (hv : (Lit.int .i64 v).wf = true) :
    ∃ w', (Instr.mapUpdate T (.map (some mb)) (.string ⟨s.toArray⟩) (.int .i64 v)).run P w = .ok () w' ∧ Mpi P K B w' mb (n + 1) (m.put s v) ∧ w.grownBy w' (some mb) := by
  obtain ⟨c, D, hc, ho, hd⟩ := h
  obtain ⟨w', hr, ho', hg⟩ := ho.update (string_keyed hk) ht (by unfold maxLen; omega) (nm_key hk hs) (plainElem_int hb hv)
  exact ⟨w', hr, ⟨c + 1, _, by omega, ho', hd.put trivial v⟩, hg⟩
theorem Mpi.drop (h : Mpi P K B w mb n m) {s : List UInt8} (hs : s.length ≤ 4000) (ty : TypeId) :
    ∃ w', (Builtin.delete_ #[T, K] ty #[.map (some mb), .string ⟨s.toArray⟩]).run P w = .ok (.tuple #[]) w' ∧ Mpi P K B w' mb n (m.del s) ∧ w.grownBy w' (some mb) := by
  have _ := hb
  obtain ⟨c, D, hc, ho, hd⟩ := h
  obtain ⟨w', hr, ho', hg⟩ := ho.drop (string_keyed hk) ht (nm_key hk hs) ty
  exact ⟨w', hr, ⟨c, _, hc, ho', hd.del s⟩, hg.grown⟩
end
structure But2 (a b : Nat) (w w' : World) : Prop where
  os : w'.os = w.os
  tape : w'.tape = w.tape
  output : w'.output = w.output
  size : w.heap.size ≤ w'.heap.size
  block : ∀ k, k < w.heap.size → k ≠ a → k ≠ b → w'.heap[k]? = w.heap[k]?
section
variable {a b : Nat} {w w' w2 : World}
theorem But2.refl (a b : Nat) (w : World) : But2 a b w w := ⟨rfl, rfl, rfl, Nat.le_refl _, fun _ _ _ _ => rfl⟩
theorem But2.trans (h : But2 a b w w') (k : But2 a b w' w2) : But2 a b w w2 :=
  ⟨k.os.trans h.os, k.tape.trans h.tape, k.output.trans h.output, Nat.le_trans h.size k.size, fun i hi h1 h2 => (k.block i (Nat.lt_of_lt_of_le hi h.size) h1 h2).trans (h.block i hi h1 h2)⟩
theorem But2.of_grown {row : Option Nat} (h : w.grownBy w' row) (hr : ∀ r, row = some r → r = a ∨ r = b) : But2 a b w w' :=
  ⟨h.os, h.tape, h.output, h.size, fun k hk h1 h2 => h.block k hk fun e => by rcases hr k e.symm with e | e <;> contradiction⟩
theorem But2.of_ext (h : Ext w w') : But2 a b w w' := But2.of_grown (h.grownBy none) (fun r e => by cases e)
theorem But2.ext {w0 : World} (h : But2 a b w w') (hx : Ext w0 w) (ha : w0.heap.size ≤ a) (hb : w0.heap.size ≤ b) : Ext w0 w' :=
  ⟨h.os.trans hx.below.os, h.tape.trans hx.below.tape, h.output.trans hx.below.output, Nat.le_trans hx.size h.size, fun k hk => (h.block k (Nat.lt_of_lt_of_le hk hx.size) (by omega) (by omega)).trans (hx.below.block k hk)⟩
theorem But2.one (h : But2 a b w w') (hw : Ext w2 w) (hb : w2.heap.size ≤ b) : w2.grownBy w' (some a) :=
  ⟨h.os.trans hw.below.os, h.tape.trans hw.below.tape, h.output.trans hw.below.output, Nat.le_trans hw.size h.size, fun k hk hne => (h.block k (Nat.lt_of_lt_of_le hk hw.size) (fun e => hne (by rw [e])) (by omega)).trans (hw.below.block k hk)⟩
theorem But2.blk {q : Nat} {l : List Value} {T : TypeId} (h : But2 a b w w') (hq : BlkOf w q l T) (h1 : q ≠ a) (h2 : q ≠ b) : BlkOf w' q l T := by
  have hlt := hq.lt
  unfold BlkOf at *
  rw [h.block q hlt h1 h2]; exact hq
theorem But2.own {B e sz n : Nat} {v : Value} {xs : List Value} (h : But2 a b w w') (ho : w.ownsRow B e sz v n xs) (hA : ∀ A, v.ownBlock = some A → A ≠ a ∧ A ≠ b) : w'.ownsRow B e sz v n xs := by
  refine ⟨ho.1, ?_⟩
  rcases ho.2 with h2 | ⟨g, cap, cur, hv, hbg, hgg, hr⟩
  · exact .inl h2
  · subst hv
    exact .inr ⟨g, cap, cur, rfl, hbg, by rw [h.block g (Array.getElem?_eq_some_iff.1 hgg).1 (hA g rfl).1 (hA g rfl).2]; exact hgg, hr⟩
end
end Go.Att
end
