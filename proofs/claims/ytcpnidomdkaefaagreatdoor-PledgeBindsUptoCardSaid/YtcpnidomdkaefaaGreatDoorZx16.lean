/- Circuits: gates as triples, layers as slices of slices of them; how wide a layer is. Words for worlds: a matrix of eight rows of eight numbers in a block of its own. No program in sight. Are two lists the same? Contract. (begun from the seat's starting text UptoLemmas) What the bound on the arguments' bulk gives. From a law's walk to its row: what a law leaves behind; how arguments read. No function in sight. What the bound on the bulk gives for lists of lists. The one listed variable: errors.errorType: what the condition gives; a world that meets it. -/
import Derived.Test.YtcpnidomdkaefaaGreatDoorVc
import Derived.Test.YtcpnidomdkaefaaGreatDoorProg
import Derived.StillTailTactics
import Derived.Test.YtcpnidomdkaefaaGreatDoorZx5
import Derived.Test.YtcpnidomdkaefaaGreatDoorRows
import Derived.ProofKit
import Derived.OpenShut
import Derived.Deep.SlicePairs
import Derived.Carry
import Derived.Deep.Slices
import Derived.Test.YtcpnidomdkaefaaGreatDoorZx15
import Derived.LaidHandle
import Derived.Deep.DeepHandedRow
section
/-! Circuits: gates as triples, layers as slices of slices of them; how wide a layer is. -/
namespace Go.Att
open Go.RowKit
abbrev Tri := Int × Int × Int
def flatT (l : List Tri) : List Value := l.flatMap fun c => [.int .i64 c.1, .int .i64 c.2.1, .int .i64 c.2.2]
theorem flatT_get (l : List Tri) (i : Nat) (h : i < l.length) : (flatT l)[i * 3]? = some (.int .i64 l[i].1) ∧ (flatT l)[i * 3 + 1]? = some (.int .i64 l[i].2.1) ∧ (flatT l)[i * 3 + 2]? = some (.int .i64 l[i].2.2) := by
  induction l generalizing i with
  | nil => simp at h
  | cons c l ih =>
    cases i with
    | zero => simp [flatT]
    | succ i =>
      have := ih i (by simpa using h)
      have e : (i + 1) * 3 = i * 3 + 3 := by omega
      simp only [flatT, List.flatMap_cons, List.cons_append, List.nil_append, e] at *
      exact this
def nthT (l : List Tri) (i : Nat) : Tri := l.getD i (0, 0, 0)
theorem nthT_eq {l : List Tri} {i : Nat} (h : i < l.length) : nthT l i = l[i] := by simp [nthT, h]
/-- A slice of triples. -/
def Trs (w : World) (v : Value) (l : List Tri) : Prop := Sl w 3 v l.length (flatT l)
section
variable {P : Program} {w w' : World} {v : Value} {l : List Tri}
theorem Trs.ext (h : Trs w v l) (hx : Ext w w') : Trs w' v l := Sl.ext h hx
theorem Trs.len (h : Trs w v l) : l.length ≤ 9223372036854775807 := by have := Sl.len h; unfold maxLen at this; omega
theorem Trs.run_len (h : Trs w v l) {t e bytes : Nat} {z : Value} (ht : SlT P t e 3 bytes z) (ty : TypeId) (w' : World) :
    (Builtin.len_ #[t] ty #[v]).run P w' = .ok (.int .i64 l.length) w' := Sl.run_len h ht ty w'
theorem Trs.run_index (h : Trs w v l) {t e bytes : Nat} {z : Value} (ht : SlT P t e 3 bytes z) (i : Nat) (hi : i < l.length) (w' : World) :
    (Instr.indexAt t v (.int .i64 i)).run P w' = .ok (.pointer (some (elt v i 3))) w' := Sl.run_index h ht i (by omega) (by omega) w'
theorem Trs.c0 (h : Trs w v l) (i : Nat) (hi : i < l.length) : w.cell? (elt v i 3) = some (.int .i64 (nthT l i).1) := by
  have := Sl.cell h i 0 hi (by omega)
  simp only [Addr.add, if_true, Nat.add_zero] at this
  rw [this, (flatT_get l i hi).1, nthT_eq hi]
theorem Trs.c1 (h : Trs w v l) (i : Nat) (hi : i < l.length) : w.cell? ⟨(elt v i 3).block, (elt v i 3).off + 1, none⟩ = some (.int .i64 (nthT l i).2.1) := by
  have := Sl.cell h i 1 hi (by omega)
  simp only [Addr.add] at this
  rw [if_neg (by omega)] at this
  rw [this, (flatT_get l i hi).2.1, nthT_eq hi]
theorem Trs.c2 (h : Trs w v l) (i : Nat) (hi : i < l.length) : w.cell? ⟨(elt v i 3).block, (elt v i 3).off + 2, none⟩ = some (.int .i64 (nthT l i).2.2) := by
  have := Sl.cell h i 2 hi (by omega)
  simp only [Addr.add] at this
  rw [if_neg (by omega)] at this
  rw [this, (flatT_get l i hi).2.2, nthT_eq hi]
theorem Trs.shape (h : Trs w v l) : ∃ ao cap, v = .slice ao l.length cap := by
  obtain ⟨ao, cap, h1, _⟩ := h; exact ⟨ao, cap, h1⟩
end
def nthY (l : List (List Tri)) (i : Nat) : List Tri := l.getD i []
/-- A slice of slices of triples. -/
structure LysAt (w : World) (v : Value) (l : List (List Tri)) (R : Nat → Value) : Prop where
  sl : Sl w 1 v l.length ((List.range l.length).map R)
  row : ∀ i, i < l.length → Trs w (R i) (nthY l i)
section
variable {P : Program} {w w' : World} {v : Value} {l : List (List Tri)} {R : Nat → Value}
theorem LysAt.ext (h : LysAt w v l R) (hx : Ext w w') : LysAt w' v l R := ⟨h.sl.ext hx, fun i hi => (h.row i hi).ext hx⟩
theorem LysAt.run_len (h : LysAt w v l R) {t e bytes : Nat} {z : Value} (ht : SlT P t e 1 bytes z) (ty : TypeId) (w' : World) : (Builtin.len_ #[t] ty #[v]).run P w' = .ok (.int .i64 l.length) w' := Sl.run_len h.sl ht ty w'
theorem LysAt.run_index (h : LysAt w v l R) {t e bytes : Nat} {z : Value} (ht : SlT P t e 1 bytes z) (i : Nat) (hi : i < l.length) (w' : World) :
    (Instr.indexAt t v (.int .i64 i)).run P w' = .ok (.pointer (some (elt v i 1))) w' := Sl.run_index h.sl ht i (by omega) (by omega) w'
theorem LysAt.cell (h : LysAt w v l R) (i : Nat) (hi : i < l.length) : w.cell? (elt v i 1) = some (R i) := by
  have := Sl.cell h.sl i 0 hi (by omega)
  simp [Addr.add] at this
  rw [this]; simp [hi]
theorem LysAt.len (h : LysAt w v l R) : l.length ≤ 9223372036854775807 := by have := Sl.len h.sl; unfold maxLen at this; omega
theorem LysAt.shape (h : LysAt w v l R) : ∃ ao cap, v = .slice ao l.length cap := by
  obtain ⟨ao, cap, h1, _⟩ := h.sl; exact ⟨ao, cap, h1⟩
end

/-! How many times 2 a number is. -/
end Go.Att
namespace Go.Proofs.YtcpnidomdkaefaaGreatDoor
open Go.RowKit Go.Att
end Go.Proofs.YtcpnidomdkaefaaGreatDoor
/-! What is wrong with a circuit, the document's side: contracts. -/
namespace Go.Att
open Go.RowKit
/-- How many there are beneath a layer. -/
def below (wd : Int) (Ls : List (List Tri)) (i : Nat) : Int := if i = 0 then 2 ^ wd.toNat else (nthY Ls (i - 1)).length
end Go.Att
namespace Go.Proofs.YtcpnidomdkaefaaGreatDoor
open Go.RowKit Go.Att

end Go.Proofs.YtcpnidomdkaefaaGreatDoor
end
section
namespace Go.Att
open Go.RowKit
def Mx (w : World) (b : Nat) (M : Nat → Nat → Int) : Prop := ∀ r j, r < 8 → j < 8 → w.cell? ⟨b, r * 8 + j, none⟩ = some (.int .i64 (M r j)) ∧ w.frozen? ⟨b, r * 8 + j, none⟩ = false
def upm (M : Nat → Nat → Int) (r j : Nat) (x : Int) : Nat → Nat → Int := fun r' j' => if r' = r ∧ j' = j then x else M r' j'
theorem Mx.ext {w w' : World} {b : Nat} {M : Nat → Nat → Int} (h : Mx w b M) (hx : Ext w w') : Mx w' b M := fun r j hr hj =>
  ⟨hx.cell (h r j hr hj).1, by rw [World.frozen?_of_block (hx.below.block b (World.block_lt_of_cell? w ⟨b, r * 8 + j, none⟩ (h r j hr hj).1))]; exact (h r j hr hj).2⟩
theorem Mx.set {w : World} {b : Nat} {M : Nat → Nat → Int} (h : Mx w b M) {r j : Nat} (hr : r < 8) (hj : j < 8) (x : Int) : Mx (w.setCell ⟨b, r * 8 + j, none⟩ (.int .i64 x)) b (upm M r j x) := fun r' j' hr' hj' => by
  refine ⟨?_, by rw [World.frozen?_setCell]; exact (h r' j' hr' hj').2⟩
  unfold upm
  by_cases e : r' = r ∧ j' = j
  · obtain ⟨rfl, rfl⟩ := e
    rw [if_pos ⟨rfl, rfl⟩]; exact World.cell?_setCell_same _ _ _ (h _ _ hr hj).1
  · rw [if_neg e, World.cell?_setCell_other _ _ _ _ (by first | (simp; omega) | simp)]; exact (h _ _ hr' hj').1
theorem Mx.other {w : World} {b b' k : Nat} {M : Nat → Nat → Int} (h : Mx w b M) (hb : b ≠ b') (v : Value) : Mx (w.setCell ⟨b', k, none⟩ v) b M := fun r j hr hj =>
  ⟨by rw [World.cell?_setCell_other _ _ _ _ (by simp)]; exact (h r j hr hj).1, by rw [World.frozen?_setCell]; exact (h r j hr hj).2⟩
theorem Mx.size {w : World} {b : Nat} {M : Nat → Nat → Int} (h : Mx w b M) : b < w.heap.size := World.block_lt_of_cell? w ⟨b, 0 * 8 + 0, none⟩ (h 0 0 (by decide) (by decide)).1
theorem Mx.congr {w : World} {b : Nat} {M M' : Nat → Nat → Int} (h : Mx w b M) (he : ∀ r j, r < 8 → j < 8 → M r j = M' r j) : Mx w b M' := fun r j hr hj => by rw [← he r j hr hj]; exact h r j hr hj
end Go.Att
end
section
/-! Are two lists the same? Contract. -/
namespace Go.Att
theorem list_eq_of {a b : List Int} (h : a.length = b.length) (h2 : ∀ i, i < a.length → nth a i = nth b i) : a = b := by
  refine List.ext_getElem h fun i h3 h4 => ?_
  have := h2 i h3
  rwa [nth_eq h3, nth_eq h4] at this
end Go.Att
namespace Go.Proofs.YtcpnidomdkaefaaGreatDoor
open Go.RowKit Go.Att
set_option maxRecDepth 100000 in
set_option maxHeartbeats 1000000 in
theorem sints_any (va vb : Value) (a b : List Int) (w : World) (ha : Ints w va a) (hb : Ints w vb b) :
    Calls Tryz.prog 17 #[va, vb] w (Rd w (.bool (decide (a = b)))) := by
  have hla := ha.run_len (P := Tryz.prog) slInts
  have hlb := hb.run_len (P := Tryz.prog) slInts
  have hlen := ha.len
  have HA := Lib.hid ha; have HB := Lib.hid hb; clear ha hb
  by_cases hl : a.length = b.length
  · have hbb : ((a.length : Int) != (b.length : Int)) = false := by rw [bne_eq_false_iff_eq]; omega
    have HL := Lib.hid hl; clear hl
    go_enter Tryz.func17, Tryz.ntmps17
    go_wp2_with fail
    go_loopw [5] (fun x5 wr => ∃ i m : Nat, i ≤ a.length ∧ x5 = .int .i64 i ∧ Hid (∀ j, j < i → nth a j = nth b j) ∧ wr = w.drewN m) (fun x5 _ => a.length - (intOf x5).toNat)
    case atStart => exact ⟨0, 0, Nat.zero_le _, rfl, Lib.hid (fun j hj => by omega), rfl⟩
    case round =>
      obtain ⟨i, m, hi, rfl, H, rfl⟩ := hrel
      by_cases hil : i < a.length
      · have hix := HA.out.run_index (P := Tryz.prog) slInts i hil
        have hc := HA.out.cell i hil
        have hix2 := HB.out.run_index (P := Tryz.prog) slInts i (by have := HL.out; omega)
        have hc2 := HB.out.cell i (by have := HL.out; omega)
        by_cases he : nth a i = nth b i
        · have hb2 : (nth a i != nth b i) = false := by rw [bne_eq_false_iff_eq]; exact he
          have HE := Lib.hid he; clear he
          go_wp2_with fail
          go_quiet (fail)
          go_wp2_with fail
          go_roundw
          case rel => exact ⟨i + 1, _, by omega, by go_num, Lib.hid (fun j hj => by
            rcases Nat.lt_or_eq_of_le (show j ≤ i by omega) with h | rfl
            · exact H.out j h
            · exact HE.out), rfl⟩
          case measure => simp [intOf]; omega
        · have hb2 : (nth a i != nth b i) = true := by rw [bne_iff_ne]; exact he
          have HD := Lib.hid (decide_eq_false (p := a = b) (fun e => he (by rw [e]))); clear he
          go_wp2_with fail
          go_quiet (fail)
          go_wp2_with fail
          go_ret
          exact ⟨ret_bool HD.out.symm, _, World.drewN_drewN _ _ _⟩
      · obtain rfl : i = a.length := by omega
        have HD := Lib.hid (decide_eq_true (p := a = b) (list_eq_of HL.out H.out))
        go_wp2_with fail
        go_ret
        exact .more _ (ret_bool HD.out.symm)
  · have hbb : ((a.length : Int) != (b.length : Int)) = true := by rw [bne_iff_ne]; omega
    have HD := Lib.hid (decide_eq_false (p := a = b) (fun e => hl (by rw [e]))); clear hl
    go_enter Tryz.func17, Tryz.ntmps17
    go_wp2_with fail
    go_ret
    exact .same (ret_bool HD.out.symm)
end Go.Proofs.YtcpnidomdkaefaaGreatDoor
/-! Are two lists of lists the same? Contract. -/
namespace Go.Att
end Go.Att
namespace Go.Proofs.YtcpnidomdkaefaaGreatDoor
open Go.RowKit Go.Att
end Go.Proofs.YtcpnidomdkaefaaGreatDoor
end
section
namespace Go.Proofs.YtcpnidomdkaefaaGreatDoor.bulks

theorem one_le {H : Type} (d : DataW H) : 1 ≤ Rows.uptoBulk d := by
  cases d with
  | lit l => cases l <;> simp [Rows.uptoBulk]
  | nil => simp [Rows.uptoBulk]
  | ptr d => simp [Rows.uptoBulk]
  | slice elems spare => simp [Rows.uptoBulk]
  | agg parts => simp [Rows.uptoBulk]
  | iface t d => simp [Rows.uptoBulk]
  | map entries => simp [Rows.uptoBulk]
  | held h => simp [Rows.uptoBulk]

/-- a part's bulk is at most the whole's -/
theorem part_le {H : Type} {d : DataW H} {l : List (DataW H)} (h : d ∈ l) : Rows.uptoBulk d ≤ Rows.uptoBulkAll l := by
  induction l with
  | nil => cases h
  | cons x r ih =>
    simp only [Rows.uptoBulkAll]
    cases List.mem_cons.1 h with
    | inl e => subst e; omega
    | inr e => have := ih e; omega

theorem append {H : Type} (l r : List (DataW H)) : Rows.uptoBulkAll (l ++ r) = Rows.uptoBulkAll l + Rows.uptoBulkAll r := by
  induction l with
  | nil => simp [Rows.uptoBulkAll]
  | cons x l ih => simp only [List.cons_append, Rows.uptoBulkAll, ih]; omega

/-- so many values at the most -/
theorem length_le {H : Type} (l : List (DataW H)) : l.length ≤ Rows.uptoBulkAll l := by
  induction l with
  | nil => simp [Rows.uptoBulkAll]
  | cons x r ih => have := one_le x; simp only [Rows.uptoBulkAll, List.length_cons]; omega

/-- a slice's places, and what they hold -/
theorem slice_le {H : Type} (elems spare : List (DataW H)) : elems.length + spare.length + 1 ≤ Rows.uptoBulk (.slice elems spare) := by
  have h1 := length_le elems
  have h2 := length_le spare
  simp only [Rows.uptoBulk]
  omega
theorem slice_elems {H : Type} (elems spare : List (DataW H)) : Rows.uptoBulkAll elems + 1 ≤ Rows.uptoBulk (.slice elems spare) := by
  simp only [Rows.uptoBulk]
  omega

/-- THE BOUND, as the builder hands it over ('hk') -/
theorem bound {H : Type} {l : List (DataW H)} (hk : Rows.uptoSmall H l = true) : Rows.uptoBulkAll l ≤ 1048576 := by
  simpa [Rows.uptoSmall] using hk

end Go.Proofs.YtcpnidomdkaefaaGreatDoor.bulks
end
section
/-! From a law's walk to its row: what a law leaves behind; how arguments read. No function in sight. -/
namespace Go.Att
open Go.RowKit Go.ChangeShapes Go.WideShapes Go.Deep

section
variable {H : Type} {enc : TypeId × Value → H} {P : Program}
/-- All arguments read behind the call as they did. -/
theorem trodAll_below (hl : laidOutB P = true) {W W' : World} (hb : Ext W W') : ∀ {ts : List TypeId} {vs : List Value} {ds : List (DataW H)} {ps : List MemPlace},
    (∀ t ∈ ts, P.readableRec t = true ∧ t < P.types.size) → DataW.TrodAll enc P W 0 (fun _ => true) true ts vs ds ps → (∀ x ∈ ps, x.block < W.heap.size) →
    DataW.TrodAll enc P W' 0 (fun b => decide (b < W.heap.size)) true ts vs ds ps
  | [], vs, ds, ps, _, h, _ => by
    obtain ⟨rfl, rfl, rfl⟩ := trodAll_nil h
    exact trodAll_mk0
  | t :: ts, vs, ds, ps, hr, h, hlt => by
    obtain ⟨v, vs', d, ds', p, q, rfl, rfl, rfl, h1, h2⟩ := trodAll_cons h
    obtain ⟨r1, r2⟩ := hr t (by simp)
    exact trodAll_cons_mk (Below.trod hl r1 r2 h1 hb (fun x hx => hlt x (by simp [hx]))) (trodAll_below hl hb (fun t ht => hr t (by simp [ht])) h2 (fun x hx => hlt x (by simp [hx])))

/-- What a law that returns true, and leaves all that was there as it was, leaves behind. -/
theorem law_post {f : Func} {s : ChangeSpec} {W W' : World} {args : Array Value} {ds gs : List (DataW H)} {before : List MemPlace} {tb : TypeId} (hl : laidOutB P = true)
    (hpar : f.params.toList.all (fun t => P.readableRec t && decide (t < P.types.size)) = true) (hres : f.resultTypes = #[tb]) (htb : P.underlying tb = some .bool) (hsv : s.vars = [])
    (hW : DataW.Whole enc P f.params.toList s.vars false W args.toList ds gs before) (hfn : s.fn H ds = { results := [.lit (.bool true)], args := ds }) (hx : Ext W W') :
    s.post enc P f false true false false W args (.bool true) W' := by
  have hW' := hW
  obtain ⟨p, q, hA, hV, rfl, hfz, hnd⟩ := hW
  rw [hsv] at hV
  obtain ⟨rfl, rfl⟩ : gs = [] ∧ q = [] := by
    cases gs with
    | nil => exact ⟨rfl, hV⟩
    | cons g r => exact absurd hV (by intro h; cases h)
  have hlt : ∀ x ∈ p, x.block < W.heap.size := fun x hx => hW'.lt x (by simpa using hx)
  have hpar' : ∀ t ∈ f.params.toList, P.readableRec t = true ∧ t < P.types.size := fun t ht => by
    have := List.all_eq_true.1 hpar t ht
    simpa using this
  refine ⟨ds, [], _, [], p, [], hW', ?_, ?_, ?_, World.keptBut_mono (fun x hx => ?_) (Below.frame hx (fun _ => False)), fun h => by cases h⟩
  · rw [List.append_nil, hfn, hres]
    exact trodAll_mk1 (shut_bool htb true)
  · rw [List.append_nil, hfn]
    exact trodAll_below hl hx hpar' hA hlt
  · rw [List.append_nil, hfn, hsv]; rfl
  · exact hx.elim
end

section
variable {H : Type} {enc : TypeId × Value → H} {P : Program} {w : World} {base : Nat} {spare : Nat → Bool} {held : Bool}
/-- A slice of ints that came in. -/
theorem open_IntsF {fuel : Nat} {t e : TypeId} {v : Value} {d : DataW H} {p : List MemPlace} (ht : P.underlying t = some (.slice e)) (he : P.underlying e = some (.int .i64)) (hc : P.cellsOf e = 1)
    (hf : DataW.trod enc P w base spare held fuel t [v] = some (d, p)) : ∃ l : List Int, Ints w v l ∧ (l = [] ∨ ∃ es sp, d = .slice es sp ∧ es.length = l.length) := by
  rcases open_ints ht he hc hf with ⟨h1, h2⟩ | ⟨a, len, cap, zs, h1, h2, h3, h4, h5, h6, h7, h8⟩
  · simp at h1 h2
    subst h1
    exact ⟨[], Ints.nil _, .inl rfl⟩
  · simp at h1 h6
    subst h1
    have hlz : len ≤ zs.length := by rw [h5]; split <;> omega
    refine ⟨zs.take len, ⟨some a, cap, ?_, ?_, ?_, h4, fun i hi => ?_⟩, .inr ⟨_, _, h6.1, by simp [lits]⟩⟩
    · simp; omega
    · simp
    · simp; omega
    · simp at hi
      have hi' : i < zs.length := by omega
      have hsp : a.spot = none := by
        have h0 := h7 0 (by omega)
        rw [Addr.add, if_pos rfl] at h0
        rcases ha : a.spot with _ | n
        · rfl
        · unfold World.cell? at h0
          rw [ha] at h0
          split at h0
          · simp at h0
          · cases h0
      refine ⟨a.block, a.off, ?_, ?_⟩
      · rcases a with ⟨b, o, s⟩; simp at hsp; subst hsp; rfl
      · have hci := h7 i hi'
        have : a.add i = ⟨a.block, a.off + i, none⟩ := by
          rcases a with ⟨b, o, s⟩; simp at hsp; subst hsp; exact Addr.add_lit _ _ _
        rw [this] at hci
        rw [hci]
        simp [hi']
theorem open_Ints {t e : TypeId} {v : Value} {d : DataW H} {p : List MemPlace} (ht : P.underlying t = some (.slice e)) (he : P.underlying e = some (.int .i64)) (hc : P.cellsOf e = 1)
    (hv : v.cells.toList = [v]) (h : DataW.Trod enc P w base spare held t v d p) : ∃ l : List Int, Ints w v l ∧ (l = [] ∨ ∃ es sp, d = .slice es sp ∧ es.length = l.length) := by
  obtain ⟨fuel, hf⟩ := h
  rw [hv] at hf
  exact open_IntsF ht he hc hf

theorem spot_none {a : Addr} {x : Value} (h0 : w.cell? a = some x) : a.spot = none := by
  rcases ha : a.spot with _ | n
  · rfl
  · unfold World.cell? at h0
    rw [ha] at h0
    split at h0
    · simp at h0
    · cases h0
end
end Go.Att
/-! How arguments read: slices of slices. No function in sight. -/
namespace Go.Att
open Go.RowKit Go.ChangeShapes Go.WideShapes Go.Deep
section
variable {H : Type} {enc : TypeId × Value → H} {P : Program} {w : World} {base : Nat} {spare : Nat → Bool} {held : Bool}
theorem addr_lit {a : Addr} (h : a.spot = none) (j : Nat) : a.add j = ⟨a.block, a.off + j, none⟩ := by
  rcases a with ⟨b, o, s⟩; simp at h; subst h; exact Addr.add_lit _ _ _
/-- What the slices in a list of lists read as. -/
def RowD {H : Type} (l : List Int) (d : DataW H) : Prop := l = [] ∨ ∃ es sp, d = .slice es sp ∧ es.length = l.length
def RowsD {H : Type} (L : List (List Int)) (d : DataW H) : Prop := L = [] ∨ ∃ es sp, d = .slice es sp ∧ es.length = L.length ∧ ∀ i (h : i < es.length), RowD (nthL L i) es[i]
theorem open_RwsF {fuel : Nat} {t e q : TypeId} {v : Value} {d : DataW H} {p : List MemPlace} (ht : P.underlying t = some (.slice e)) (he : P.underlying e = some (.slice q)) (hq : P.underlying q = some (.int .i64)) (ce : P.cellsOf e = 1) (cq : P.cellsOf q = 1)
    (hf : DataW.trod enc P w base spare held fuel t [v] = some (d, p)) : ∃ L : List (List Int), Rws w v L ∧ RowsD L d := by
  rcases open_slice1 ht ce hf with ⟨h1, h2⟩ | ⟨a, len, cap, m, n, V, D, Pl, h1, h2, h3, h4, h5, h6, h7⟩
  · simp at h1
    subst h1
    exact ⟨[], Rws.nil w, .inl rfl⟩
  · simp at h1 h6
    subst h1
    have hlm : len ≤ m := by rw [h5]; split <;> omega
    have each : ∀ i, i < m → ∃ l : List Int, Ints w (V i) l ∧ RowD l (D i) := fun i hi => open_IntsF he hq cq (h7 i hi).2
    have choose : ∃ f : Nat → List Int, ∀ i, i < m → Ints w (V i) (f i) ∧ RowD (f i) (D i) := by
      refine ⟨fun i => if h : i < m then Classical.choose (each i h) else [], fun i hi => ?_⟩
      have e : (if h : i < m then Classical.choose (each i h) else []) = Classical.choose (each i hi) := dif_pos hi
      simp only [e]; exact Classical.choose_spec (each i hi)
    obtain ⟨f, hf2⟩ := choose
    refine ⟨(List.range len).map f, ⟨V, ⟨some a, cap, ?_, ?_, ?_, h4, fun i hi => ?_⟩, fun i hi => ?_⟩, .inr ⟨_, _, h6.1, by simp, fun i hi => ?_⟩⟩
    · simp
    · simp
    · simpa using h3
    · simp at hi
      have hsp : a.spot = none := spot_none (by have := (h7 0 (by omega)).1; rw [Addr.add, if_pos rfl] at this; exact this)
      refine ⟨a.block, a.off, by rcases a with ⟨b, o, s⟩; simp at hsp; subst hsp; rfl, ?_⟩
      have := (h7 i (by omega)).1
      rw [addr_lit hsp] at this
      rw [this]; simp
    · simp at hi
      rw [nthL_eq (by simpa using hi)]; simpa using (hf2 i (by omega)).1
    · simp at hi
      rw [nthL_eq (by simpa using hi)]; simpa using (hf2 i (by omega)).2
end
end Go.Att
end
section
/-! What the bound on the bulk gives for lists of lists. -/
namespace Go.Proofs.YtcpnidomdkaefaaGreatDoor.bulks
open Go.Att
theorem row_le {H : Type} {l : List Int} {d : DataW H} (h : RowD l d) : l.length ≤ Rows.uptoBulk d := by
  rcases h with rfl | ⟨es, sp, rfl, e⟩
  · exact Nat.zero_le _
  · have := slice_le es sp; omega
theorem rows_le {H : Type} {L : List (List Int)} {d : DataW H} (h : RowsD L d) : L.length ≤ Rows.uptoBulk d := by
  rcases h with rfl | ⟨es, sp, rfl, e, _⟩
  · exact Nat.zero_le _
  · have := slice_le es sp; omega
theorem rows_row_le {H : Type} {L : List (List Int)} {d : DataW H} (h : RowsD L d) {i : Nat} (hi : i < L.length) : (nthL L i).length ≤ Rows.uptoBulk d := by
  rcases h with rfl | ⟨es, sp, rfl, e, h2⟩
  · simp at hi
  · have h3 := row_le (h2 i (by omega))
    have h4 : Rows.uptoBulk es[i] ≤ Rows.uptoBulkAll es := part_le (List.getElem_mem _)
    have := slice_elems es sp
    omega
end Go.Proofs.YtcpnidomdkaefaaGreatDoor.bulks
/-! How arguments read: circuits (a struct of a number and slices of slices of triples). -/
namespace Go.Att
open Go.RowKit Go.ChangeShapes Go.WideShapes Go.Deep
section
variable {H : Type} {enc : TypeId × Value → H} {P : Program} {w : World} {base : Nat} {spare : Nat → Bool} {held : Bool}
theorem okWide_agg {t : TypeId} {fs : Array Field} {v : Value} {r : Reach} (ht : P.underlying t = some (.struct fs)) (h : Value.okWide P w r base t v) : ∃ cs, v = .agg cs ∧ cs.size = P.cellsOf t := by
  simp only [Value.okWide, ht] at h
  obtain ⟨cs, rfl, h2, _⟩ := h
  exact ⟨cs, rfl, h2⟩
end
end Go.Att
namespace Go.Proofs.YtcpnidomdkaefaaGreatDoor.bulks
open Go.Att
end Go.Proofs.YtcpnidomdkaefaaGreatDoor.bulks
end
section
namespace Go.Proofs.YtcpnidomdkaefaaGreatDoor
open Go.ChangeShapes Go.WideShapes Go.RowKit Go.Att

theorem kOwn : ownKnob Tryz.prog.godebug = none := by kernel_rfl
theorem kEt : Tryz.prog.globalNamed "errors.errorType" = some 0 := by kernel_rfl
theorem kRt : (Tryz.prog.cutTypes.find? (·.1 == "internal/reflectlite.rtype")).map (·.2) = some 212 := by kernel_rfl
theorem kOneRow : ((List.range 262).filter fun t => Tryz.prog.rowNamed t [101, 114, 114, 111, 114]) = [44] := by kernel_rfl
theorem kSize : Tryz.prog.types.size = 262 := by kernel_rfl
theorem kLaidOut : laidOutB Tryz.prog = true := by kernel_rfl

/-- What the condition gives a walk: the variable's one cell. -/
theorem handle_of_laid {W : World} (h : laidMetH Tryz.prog [("errors.errorType", Rows.laid_errors_errorType)] W) : Hnd W := by
  have h' : laidMet Tryz.prog [] W ∧ handlesMet Tryz.prog [("errors.errorType", Rows.laid_errors_errorType)] W := h
  obtain ⟨name, u, ty, e1, e2, e3, e4, e5⟩ := h'.2 _ (List.mem_singleton.2 rfl)
  have en : name = [101, 114, 114, 111, 114] := (Option.some.inj e1).symm
  subst en
  obtain rfl := Option.some.inj (kRt.symm.trans e2)
  have hm : ty ∈ (List.range 262).filter fun t => Tryz.prog.rowNamed t [101, 114, 114, 111, 114] := List.mem_filter.2 ⟨List.mem_range.2 (by rw [← kSize]; exact e3), e4⟩
  rw [kOneRow] at hm
  obtain rfl := List.mem_singleton.1 hm
  have hh : typeHandle Tryz.prog 44 = .pointer (some ⟨1, 44, none⟩) := by kernel_rfl
  rw [hh] at e5
  unfold Hnd
  simpa using World.var?_cell kEt e5 0

/-- A world that meets the condition: the settled one, the variable's cell laid. -/
noncomputable def laidWorld (os : Os) : World :=
  let w0 := World.holding Tryz.prog os ⟨#[], #[], []⟩
  { w0 with heap := w0.heap.modify 0 fun
      | .cells _ t frozen => .cells #[.iface 212 (.agg #[.pointer (some ⟨1, 44, none⟩)])] t frozen
      | o => o }
theorem laidWorld_met (os : Os) (args : Array Value) : laidMetH Tryz.prog [("errors.errorType", Rows.laid_errors_errorType)] ((laidWorld os).forCall (fun _ _ => 0) ⟨#[], args, []⟩).memory :=
  laidMetH_of_parts (laidMet_nil _ _) (by kernel_rfl)
end Go.Proofs.YtcpnidomdkaefaaGreatDoor
end
