/- What an opening shows is worked out, the program's side: tree.way.work, a group of more rows: contract. Printed by wip/mkni.py. -/
import Derived.Test.YtfepefbehgbjpaaGreatDoorNh
namespace Go.Att
open Go.RowKit
def FrmIn (lo hi : Int) (D D' : Int → Int → Option (List Int)) : Prop := ∀ x y, x < y → ¬ (lo ≤ x ∧ y ≤ hi) → D' x y = D x y
end Go.Att
namespace Go.Proofs.YtfepefbehgbjpaaGreatDoor
open Go.RowKit Go.Att
def SplL (w0 w4 : World) (wb mb lb : Nat) (p : Int) (k : Nat) (pl : List Int) (rows : List (List Int)) (f a m : Nat) (nodes : List (List Int)) (N : Nat) (D L : Int → Int → Option (List Int)) (u : Value) (W : World) : Prop :=
  ∃ NR' D' L', RwsAt w0 u (nodes.drop (hidN pl f a m)) NR' ∧ Turned mb lb w4 W ∧ WayAt W wb mb lb (N + (2 * m - 1)) D' L' ∧ Wkd p k pl rows D' L' f a m nodes ∧ FrmIn a ((a : Int) + m) D D' ∧ FrmIn a ((a : Int) + m) L L'
def SplR (w0 w4 : World) (wb mb lb : Nat) (p : Int) (k : Nat) (pl : List Int) (rows : List (List Int)) (f a m n : Nat) (nodes : List (List Int)) (N : Nat) (D L : Int → Int → Option (List Int)) (u : Value) (W : World) : Prop :=
  ∃ NR' D' L', RwsAt w0 u (nodes.drop (hidN pl f a m + hidN pl f (a + m) (n - m))) NR' ∧ Turned mb lb w4 W ∧ WayAt W wb mb lb (N + (2 * n - 2)) D' L' ∧ Wkd p k pl rows D' L' f a m nodes ∧ Wkd p k pl rows D' L' f (a + m) (n - m) (nodes.drop (hidN pl f a m)) ∧ FrmIn a ((a : Int) + n) D D' ∧ FrmIn a ((a : Int) + n) L L'
def SplSta (w0 w4 : World) (wb mb lb : Nat) (p : Int) (k : Nat) (pl : List Int) (rows : List (List Int)) (f a m n : Nat) (nodes : List (List Int)) (N : Nat) (D L : Int → Int → Option (List Int)) (nv : Value) : Nat → (Nat → Value) → World → Prop
  | 0, vs, W => Turned mb lb w4 W ∧ WayAt W wb mb lb N D L ∧ vs 4 = nv
  | 1, vs, W => Turned mb lb w4 W ∧ WayAt W wb mb lb N D L ∧ vs 75 = nv
  | 2, vs, W => SplL w0 w4 wb mb lb p k pl rows f a m nodes N D L (vs 76) W
  | 3, vs, W => SplR w0 w4 wb mb lb p k pl rows f a m n nodes N D L (vs 77) W
  | 4, vs, W => SplR w0 w4 wb mb lb p k pl rows f a m n nodes N D L (vs 4) W
  | _, _, _ => False
section
variable {w0 w4 : World} {wb mb lb : Nat} {p : Int} {k : Nat} {pl : List Int} {rows : List (List Int)} {f a m n : Nat} {nodes : List (List Int)} {N : Nat} {D L : Int → Int → Option (List Int)} {nv : Value}
theorem SplSta.turned : ∀ {c : Nat} {vs : Nat → Value} {W : World}, SplSta w0 w4 wb mb lb p k pl rows f a m n nodes N D L nv c vs W → Turned mb lb w4 W
  | 0, _, _, h => h.1
  | 1, _, _, h => h.1
  | 2, _, _, ⟨_, _, _, _, h, _⟩ => h
  | 3, _, _, ⟨_, _, _, _, h, _⟩ => h
  | 4, _, _, ⟨_, _, _, _, h, _⟩ => h
  | _ + 5, _, _, h => h.elim
theorem WayAt.none' {W W' : World} {D L : Int → Int → Option (List Int)} {M : Nat} (h : WayAt W wb mb lb M D L) (hg : W.grownBy W' none) : WayAt W' wb mb lb M D L := h.ext ⟨hg.os, hg.tape, hg.output, hg.size, fun k hk => hg.block k hk (by simp)⟩
theorem SplSta.free {W W' : World} {vs vs' : Nat → Value} (hg : W.grownBy W' none) (e3 : vs' 75 = vs 75) (e0 : vs' 76 = vs 76) (e1 : vs' 77 = vs 77) (e2 : vs' 4 = vs 4) : ∀ {c : Nat}, SplSta w0 w4 wb mb lb p k pl rows f a m n nodes N D L nv c vs W → SplSta w0 w4 wb mb lb p k pl rows f a m n nodes N D L nv c vs' W'
  | 0, h => ⟨turned_none h.1 hg, h.2.1.none' hg, e2.trans h.2.2⟩
  | 1, h => ⟨turned_none h.1 hg, h.2.1.none' hg, e3.trans h.2.2⟩
  | 2, ⟨x1, x2, x3, h1, h2, h3, h4⟩ => ⟨x1, x2, x3, by rw [e0]; exact h1, turned_none h2 hg, h3.none' hg, h4⟩
  | 3, ⟨x1, x2, x3, h1, h2, h3, h4⟩ => ⟨x1, x2, x3, by rw [e1]; exact h1, turned_none h2 hg, h3.none' hg, h4⟩
  | 4, ⟨x1, x2, x3, h1, h2, h3, h4⟩ => ⟨x1, x2, x3, by rw [e2]; exact h1, turned_none h2 hg, h3.none' hg, h4⟩
  | _ + 5, h => h.elim
end
theorem ints_blk4 {W : World} {q : Nat} {T : TypeId} {l : List Int} {a b c d : Int} (h : BlkOf W q [.int .i64 a, .int .i64 b, .int .i64 c, .int .i64 d] T) (hl : l.length = 4) (h0 : nth l 0 = a) (h1 : nth l 1 = b) (h2 : nth l 2 = c) (h3 : nth l 3 = d) : Ints W (.slice (some ⟨q, 0, none⟩) 4 4) l := by
  match l, hl with
  | [x, y, z, w], _ =>
    obtain rfl : x = a := h0
    obtain rfl : y = b := h1
    obtain rfl : z = c := h2
    obtain rfl : w = d := h3
    refine ⟨some ⟨q, 0, none⟩, 4, rfl, rfl, Nat.le_refl _, by unfold maxLen; omega, fun i hi => ⟨q, 0, rfl, ?_⟩⟩
    rw [Nat.zero_add, h.cell]
    exact List.getElem?_eq_getElem hi
def ArrSta (w6 : World) (X Y : List Value) (s : Nat → Bool) (vs : Nat → Value) (W : World) : Prop :=
  Ext w6 W ∧ (s 14 = true → s 12 = true) ∧ (s 15 = true → s 13 = true) ∧
  (s 12 = true → ∃ q, vs 16 = .pointer (some ⟨q, 0, none⟩) ∧ w6.heap.size ≤ q ∧ BlkOf W q (if s 14 = true then X else [.int .i64 0, .int .i64 0, .int .i64 0, .int .i64 0]) 182) ∧
  (s 13 = true → ∃ q, vs 17 = .pointer (some ⟨q, 0, none⟩) ∧ w6.heap.size ≤ q ∧ BlkOf W q (if s 15 = true then Y else [.int .i64 0, .int .i64 0, .int .i64 0, .int .i64 0]) 182) ∧
  (s 12 = true → s 13 = true → vs 16 ≠ vs 17)
theorem ext_none {W W' : World} (hg : W.grownBy W' none) : Ext W W' := ⟨hg.os, hg.tape, hg.output, hg.size, fun k hk => hg.block k hk (by simp)⟩
theorem ArrSta.free {w6 : World} {X Y : List Value} {s s' : Nat → Bool} {vs vs' : Nat → Value} {W W' : World} (h : ArrSta w6 X Y s vs W) (hg : W.grownBy W' none) (e2 : s' 12 = s 12) (e3 : s' 13 = s 13) (e4 : s' 14 = s 14) (e5 : s' 15 = s 15) (d6 : vs' 16 = vs 16) (d7 : vs' 17 = vs 17) : ArrSta w6 X Y s' vs' W' := by
  obtain ⟨h1, h2, h3, h4, h5, h6⟩ := h
  refine ⟨h1.trans (ext_none hg), by rw [e4, e2]; exact h2, by rw [e5, e3]; exact h3, ?_, ?_, by rw [e2, e3, d6, d7]; exact h6⟩
  · rw [e2, e4, d6]; exact fun h => let ⟨q, a, b, c⟩ := h4 h; ⟨q, a, b, c.ext (ext_none hg)⟩
  · rw [e3, e5, d7]; exact fun h => let ⟨q, a, b, c⟩ := h5 h; ⟨q, a, b, c.ext (ext_none hg)⟩
section
variable {w0 : World} {bs : Nat} {p : Int} {k : Nat} {pv rv nvo : Value} {pl : List Int} {rows : List (List Int)} {RR : Nat → Value} {wb mb lb : Nat}
set_option maxRecDepth 100000 in
set_option maxHeartbeats 16000000 in
theorem work_any (hs : Spg w0 (.pointer (some ⟨bs, 0, none⟩)) p k) (hp : Ints w0 pv pl) (hr : RwsAt w0 rv rows RR) (hasc : Asc pl) (hpl : pl.length ≤ 1000000) (hrl : rows.length = pl.length) (hrw : ∀ i, i < rows.length → (nthL rows i).length ≤ 4294960000) (hmb : w0.heap.size ≤ mb) (hlb : w0.heap.size ≤ lb) :
    ∀ (f n a : Nat), 1 ≤ n → n ≤ f → a + n ≤ 65536 → ∀ (W : World) (nv : Value) (nodes : List (List Int)) (NR : Nat → Value) (N : Nat) (D L : Int → Int → Option (List Int)), Ext w0 W → WayAt W wb mb lb N D L → RwsAt w0 nv nodes NR → hidN pl f a n ≤ nodes.length → (∀ d ∈ nodes, d.length = 4) → N + 2 * n ≤ 1000000 → (∀ x y, (a : Int) ≤ x → y ≤ (a : Int) + n → x < y → L x y = none) →
    Calls Tryz.prog 145 #[.pointer (some ⟨wb, 0, none⟩), .pointer (some ⟨bs, 0, none⟩), .agg #[pv, rv, nvo], .agg #[.int .i64 a, .int .i64 ((a : Int) + n)], nv] W (WorkGot w0 W wb mb lb p k pl rows f a n nodes N D L)
  | 0, n, a, h1, h2, h3, W, nv, nodes, NR, N, D, L, hW, hway, hn, hcnt, hd4, hN, hLn => by omega
  | f + 1, n, a, h1, h2, h3, W, nv, nodes, NR, N, D, L, hW, hway, hn, hcnt, hd4, hN, hLn => by
    by_cases hsh : sho pl a ((a : Int) + n) = true
    case neg => exact work_no hs hp hasc hpl hmb hlb f n a h1 h3 (by simpa using hsh) W nv nodes NR N D L hW hway hn hcnt hd4 hN hLn
    by_cases hn1 : n = 1
    · subst hn1
      exact work_one hs hp hr hasc hpl hrl hrw hmb hlb f a h3 hsh W nv nodes NR N D L hW hway hn (by omega)
    have hLB := lfN_bd (show 2 ≤ n by omega)
    have hhid : hidN pl (f + 1) a n = hidN pl f a (lfN n) + hidN pl f (a + lfN n) (n - lfN n) := by simp only [hidN]; rw [if_pos hsh, if_neg hn1]
    rw [hhid] at hcnt
    obtain ⟨x, hx⟩ := clbF_some (p := p) (k := k) (pl := pl) (rows := rows) (f := f) (a := a) (n := lfN n) (nodes := nodes) hLB.1 (by omega) (by omega) hd4
    obtain ⟨y, hy⟩ := clbF_some (p := p) (k := k) (pl := pl) (rows := rows) (f := f) (a := a + lfN n) (n := n - lfN n) (nodes := nodes.drop (hidN pl f a (lfN n))) (by omega) (by omega) (by rw [List.length_drop]; omega) (fun d hd => hd4 d (List.mem_of_mem_drop hd))
    have hl1 := clbF_len hx
    have hl2 := clbF_len hy
    have IA := Lib.hid (fun W' hW' hway' => work_any hs hp hr hasc hpl hrl hrw hmb hlb f (lfN n) a hLB.1 (by omega) (by omega) W' nv nodes NR N D L hW' hway' hn (by omega) hd4 (by omega) (fun x y h1 h2 h3 => hLn x y h1 (by omega) h3))
    have IB := Lib.hid (fun W' u NR' D' L' hW' hway' hn' hL' => by
      have := work_any hs hp hr hasc hpl hrl hrw hmb hlb f (n - lfN n) (a + lfN n) (by omega) (by omega) (by omega) W' u (nodes.drop (hidN pl f a (lfN n))) NR' (N + (2 * lfN n - 1)) D' L' hW' hway' hn' (by rw [List.length_drop]; omega) (fun d hd => hd4 d (List.mem_of_mem_drop hd)) (by omega) hL'
      rw [show ((a + lfN n : Nat) : Int) + ((n - lfN n : Nat) : Int) = (a : Int) + n by omega, show ((a + lfN n : Nat) : Int) = (a : Int) + (lfN n : Nat) by omega] at this
      exact this)
    have CH := Lib.hid (fun (W' : World) => thalves_any (w := W') a n (by omega) h3)
    obtain ⟨m, hm⟩ : ∃ m, lfN n = m := ⟨_, rfl⟩
    rw [hm] at hLB hhid hcnt hx hy IA IB CH
    obtain ⟨c, hc⟩ : ∃ c : Int, (a : Int) + m = c := ⟨_, rfl⟩
    obtain ⟨b, hb⟩ : ∃ b : Int, (a : Int) + n = b := ⟨_, rfl⟩
    have HSHE := Lib.hid hsh
    rw [hb] at hsh IB CH ⊢
    rw [hc] at IA IB CH
    have hbb : (a : Int) < b ∧ b ≤ 65536 := by omega
    have hb1 : ((b - (a : Int)) == 1) = false := by rw [beq_eq_false_iff_ne]; omega
    obtain ⟨sb, bf, rt, g, fs, he, hsp, hf, hkk⟩ := hs
    obtain rfl : bs = sb := by simpa using he
    have HS := Lib.hid (show Spg w0 (.pointer (some ⟨bs, 0, none⟩)) p k from ⟨bs, bf, rt, g, fs, rfl, hsp, hf, hkk⟩)
    obtain ⟨ls, hls⟩ : ∃ ls, (1 : Int) :: (x ++ y) = ls := ⟨_, rfl⟩
    obtain ⟨y0, hy0⟩ : ∃ y, nth (hashP p k ls) 0 = y := ⟨_, rfl⟩
    obtain ⟨y1, hy1⟩ : ∃ y, nth (hashP p k ls) 1 = y := ⟨_, rfl⟩
    obtain ⟨y2, hy2⟩ : ∃ y, nth (hashP p k ls) 2 = y := ⟨_, rfl⟩
    obtain ⟨y3, hy3⟩ : ∃ y, nth (hashP p k ls) 3 = y := ⟨_, rfl⟩
    have HY0 := Lib.hid hy0; have HY1 := Lib.hid hy1; have HY2 := Lib.hid hy2; have HY3 := Lib.hid hy3
    have HLS := Lib.hid (show ls.length ≤ 4294967000 from by rw [← hls]; simp; omega)
    have HLSE := Lib.hid hls; have HXC := Lib.hid hx; have HYC := Lib.hid hy; have HL1 := Lib.hid hl1; have HL2 := Lib.hid hl2
    have HHID := Lib.hid hhid; have HBE := Lib.hid hb; have HCE := Lib.hid hc; have HNB := Lib.hid hN; have HLB := Lib.hid hLB; have HNR := Lib.hid hn; have HCNT := Lib.hid hcnt; have HN1 := Lib.hid hn1; have HME := Lib.hid hm
    have HLN := Lib.hid hLn; have HD4 := Lib.hid hd4; have HW0 := Lib.hid hW
    have HWF := Lib.hid (show Wf64 (a : Int) ∧ Wf64 b ∧ Wf64 c from by unfold Wf64; omega)
    have CS := Lib.hid (fun W (h : Ints W pv pl) => by have := shows_any h hasc.le hpl (a : Int) b; rw [hsh] at this; exact this)
    have hX1 := (Ext.alloc W (Obj.cells #[pv, rv, nvo] 31)).trans (Ext.alloc _ (Obj.cells #[.int .i64 a, .int .i64 b] 127))
    have k0 := (Ext.alloc _ (Obj.cells #[.int .i64 a, .int .i64 b] 127)).cell (cell_new W #[pv, rv, nvo] 31 0)
    have k1 := (Ext.alloc _ (Obj.cells #[.int .i64 a, .int .i64 b] 127)).cell (cell_new W #[pv, rv, nvo] 31 1)
    have k2 := (Ext.alloc _ (Obj.cells #[.int .i64 a, .int .i64 b] 127)).cell (cell_new W #[pv, rv, nvo] 31 2)
    have k3 := cell_new (W.alloc (Obj.cells #[pv, rv, nvo] 31)) #[.int .i64 a, .int .i64 b] 127 0
    have k4 := cell_new (W.alloc (Obj.cells #[pv, rv, nvo] 31)) #[.int .i64 a, .int .i64 b] 127 1
    rw [World.size_alloc] at k3 k4
    have HQM := Lib.hid (show mb < W.heap.size ∧ lb < W.heap.size from ⟨hway.dig.lt, let ⟨LV, h1, _⟩ := hway.lst; h1.lt⟩)
    have HX1 := Lib.hid hX1; have HK0 := Lib.hid k0; have HK1 := Lib.hid k1; have HK2 := Lib.hid k2; have HK3 := Lib.hid k3; have HK4 := Lib.hid k4
    have HXW := Lib.hid (hW.trans hX1); have HWAY := Lib.hid hway; have HP := Lib.hid hp
    clear hp hr hasc hW hway hn hcnt hd4 hLn hhid he hsp hf hrl hrw hsh hb hc hm hls hy0 hy1 hy2 hy3 hX1 k0 k1 k2 k3 k4 hx hy hl1 hl2 hLB
    go_enter Tryz.func145, Tryz.ntmps145
    go_upto_region 1 with (fail)
    generalize (W.alloc (Obj.cells #[pv, rv, nvo] 31)).alloc (Obj.cells #[.int .i64 a, .int .i64 b] 127) = W1 at *
    have HSZ := Lib.hid (show W.heap.size < W1.heap.size from World.block_lt_of_cell? W1 _ HK0.out)
    generalize W.heap.size = q1 at *
    have k0 : W1.cell? ⟨q1, 0, none⟩ = some pv := HK0.out
    have k1 : W1.cell? ⟨q1, 1, none⟩ = some rv := HK1.out
    have k2 : W1.cell? ⟨q1, 2, none⟩ = some nvo := HK2.out
    have k3 : W1.cell? ⟨q1 + 1, 0, none⟩ = some (.int .i64 a) := HK3.out
    have k4 : W1.cell? ⟨q1 + 1, 1, none⟩ = some (.int .i64 b) := HK4.out
    clear HK0 HK1 HK2 HK3 HK4
    go_upto_region 8 with (go_at_call 130; refine (CS.out _ (HP.out.ext HXW.out)).mono ?_; rintro e w1 ⟨rfl, hx1⟩; have q0 := hx1.cell k0; have q1c := hx1.cell k1; have q2 := hx1.cell k2; have q3 := hx1.cell k3; have q4 := hx1.cell k4; have HXA := Lib.hid (HXW.out.trans hx1); have HXT := Lib.hid (HX1.out.trans hx1); have HS1 := Lib.hid hx1.size; clear hx1 k0 k1 k2 k3 k4 CS)
    go_upto_region 9 with (go_at_call 127; refine (CH.out _).mono ?_; rintro e w2 ⟨v2, rfl, hx2, rfl⟩)
    have hq1 := Ext.alloc w2 (Obj.cells #[.int .i64 (a : Int), .int .i64 c] 127)
    have r0 := cell_new w2 #[.int .i64 (a : Int), .int .i64 c] 127 0
    have r1 := cell_new w2 #[.int .i64 (a : Int), .int .i64 c] 127 1
    have e3 : (w2.alloc (Obj.cells #[.int .i64 (a : Int), .int .i64 c] 127)).heap.size = w2.heap.size + 1 := Array.size_push _
    have HS2 := Lib.hid hx2.size
    generalize w2.alloc (Obj.cells #[.int .i64 (a : Int), .int .i64 c] 127) = w3 at *
    have hq2 := Ext.alloc w3 (Obj.cells #[.int .i64 c, .int .i64 b] 127)
    have r2 := cell_new w3 #[.int .i64 c, .int .i64 b] 127 0
    have r3 := cell_new w3 #[.int .i64 c, .int .i64 b] 127 1
    have g0 := hq2.cell r0
    have g1 := hq2.cell r1
    generalize w3.alloc (Obj.cells #[.int .i64 c, .int .i64 b] 127) = w4 at *
    rw [e3] at r2 r3
    have HS3 := Lib.hid (show q1 ≤ w2.heap.size from Nat.le_trans (Nat.le_trans (Nat.le_of_lt HSZ.out) HS1.out) HS2.out)
    generalize w2.heap.size = q5 at *
    have g2 : w4.cell? ⟨q5 + 1, 0, none⟩ = some (.int .i64 c) := r2
    have g3 : w4.cell? ⟨q5 + 1, 1, none⟩ = some (.int .i64 b) := r3
    replace g0 : w4.cell? ⟨q5, 0, none⟩ = some (.int .i64 a) := g0
    replace g1 : w4.cell? ⟨q5, 1, none⟩ = some (.int .i64 c) := g1
    have hxw4 := hx2.trans (hq1.trans hq2)
    have HX4 := Lib.hid (HXA.out.trans hxw4)
    have HXT4 := Lib.hid (HXT.out.trans hxw4)
    replace q0 := hxw4.cell q0; replace q1c := hxw4.cell q1c; replace q2 := hxw4.cell q2; replace q3 := hxw4.cell q3; replace q4 := hxw4.cell q4
    clear hxw4 hq1 hq2 hx2 r0 r1 r2 r3 e3
    have HW4 := Lib.hid (HWAY.out.ext HXT4.out)
    have HTC4 : Hid (∀ W, Turned mb lb w4 W → W.cell? ⟨q1, 0, none⟩ = some pv ∧ W.cell? ⟨q1, 1, none⟩ = some rv ∧ W.cell? ⟨q1, 2, none⟩ = some nvo ∧ W.cell? ⟨q1 + 1, 0, none⟩ = some (.int .i64 a) ∧ W.cell? ⟨q1 + 1, 1, none⟩ = some (.int .i64 b) ∧ W.cell? ⟨q5, 0, none⟩ = some (.int .i64 a) ∧ W.cell? ⟨q5, 1, none⟩ = some (.int .i64 c) ∧ W.cell? ⟨q5 + 1, 0, none⟩ = some (.int .i64 c) ∧ W.cell? ⟨q5 + 1, 1, none⟩ = some (.int .i64 b) ∧ Ext w0 W) := Lib.hid fun W hT => by
      have h1 := HQM.out; have h2 := HS3.out
      exact ⟨hT.cell q0 (by show q1 ≠ mb; omega) (by show q1 ≠ lb; omega), hT.cell q1c (by show q1 ≠ mb; omega) (by show q1 ≠ lb; omega), hT.cell q2 (by show q1 ≠ mb; omega) (by show q1 ≠ lb; omega), hT.cell q3 (by show q1 + 1 ≠ mb; omega) (by show q1 + 1 ≠ lb; omega), hT.cell q4 (by show q1 + 1 ≠ mb; omega) (by show q1 + 1 ≠ lb; omega), hT.cell g0 (by show q5 ≠ mb; omega) (by show q5 ≠ lb; omega), hT.cell g1 (by show q5 ≠ mb; omega) (by show q5 ≠ lb; omega), hT.cell g2 (by show q5 + 1 ≠ mb; omega) (by show q5 + 1 ≠ lb; omega), hT.cell g3 (by show q5 + 1 ≠ mb; omega) (by show q5 + 1 ≠ lb; omega), hT.ext HX4.out hmb hlb⟩
    clear q0 q1c q2 q3 q4 g0 g1 g2 g3
    refine wp_region_chain 12 rfl (phiM (mb := mb) (lb := lb) [SM.eq (.pointer (some ⟨wb, 0, none⟩)), SM.eq (.pointer (some ⟨bs, 0, none⟩)), SM.eq (.agg #[pv, rv, nvo]), SM.eq (.agg #[.int .i64 c, .int .i64 b]), SM.eq (.pointer (some ⟨wb, 0, none⟩)), SM.eq (.pointer (some ⟨bs, 0, none⟩)), SM.eq (.agg #[pv, rv, nvo]), SM.eq (.agg #[.int .i64 (a : Int), .int .i64 c]), SM.top, SM.top, SM.top, SM.top]) [8, 9, 10, 11] (SplSta w0 w4 wb mb lb p k pl rows f a m n nodes N D L nv) (fun _ W W' => Turned mb lb W W') (by kernel_rfl) (by kernel_rfl) (by kernel_rfl) (fun j hj u W W' hu hg => by have hj2 : j = 0 ∨ j = 1 ∨ j = 2 ∨ j = 3 ∨ j = 4 ∨ j = 5 ∨ j = 6 ∨ j = 7 ∨ j = 8 ∨ j = 9 ∨ j = 10 ∨ j = 11 := (by have : j < 12 := hj; omega); rcases hj2 with rfl | rfl | rfl | rfl | rfl | rfl | rfl | rfl | rfl | rfl | rfl | rfl <;> exact hu) (fun j hj hd u W => by have hj2 : j = 8 ∨ j = 9 ∨ j = 10 ∨ j = 11 := (by simpa using hj); rcases hj2 with rfl | rfl | rfl | rfl <;> trivial) (fun k vs vs' W W' h hg hs => h.free hg (hs 0 (by decide) 75 rfl) (hs 1 (by decide) 76 rfl) (hs 2 (by decide) 77 rfl) (hs 3 (by decide) 4 rfl)) ⟨Turned.of_ext (Ext.drew _), HW4.out.ext (Ext.drew _), rfl⟩ ?_ ?_
    · refine ⟨?_, ?_, ?_, ?_, ?_, ?_, ?_, ?_, ?_, ?_, ?_, ?_, trivial⟩
      · refine bifF rfl (FreeStep.mk rfl fun vs W hk hd => ?_)
        clear hd
        clear hk
        simp only [fillA, fillL, dstL, List.take_succ_cons, List.take_zero, List.filterMap_cons, List.filterMap_nil, List.contains_cons, List.contains_nil, Nat.reduceAdd, Nat.zero_add, Nat.reduceBEq, Bool.or_false, Bool.or_true, Bool.false_eq_true, ↓reduceIte]
        go_wp2_with fail
        exact ⟨by trivial, World.grownBy.refl _ _, rfl⟩
      · refine bifF rfl (FreeStep.mk rfl fun vs W hk hd => ?_)
        clear hd
        clear hk
        simp only [fillA, fillL, dstL, List.take_succ_cons, List.take_zero, List.filterMap_cons, List.filterMap_nil, List.contains_cons, List.contains_nil, Nat.reduceAdd, Nat.zero_add, Nat.reduceBEq, Bool.or_false, Bool.or_true, Bool.false_eq_true, ↓reduceIte]
        go_wp2_with fail
        exact ⟨by trivial, World.grownBy.refl _ _, rfl⟩
      · refine bifF rfl (FreeStep.mk rfl fun vs W hk hd => ?_)
        clear hd
        obtain ⟨c0, c1, c2, c3, c4, d0, d1, d2, d3, cx⟩ := HTC4.out W (hk.elim fun k h => h.turned)
        clear hk
        simp only [fillA, fillL, dstL, List.take_succ_cons, List.take_zero, List.filterMap_cons, List.filterMap_nil, List.contains_cons, List.contains_nil, Nat.reduceAdd, Nat.zero_add, Nat.reduceBEq, Bool.or_false, Bool.or_true, Bool.false_eq_true, ↓reduceIte]
        go_wp2_with fail
        exact ⟨by trivial, World.grownBy.refl _ _, rfl⟩
      · refine bifF rfl (FreeStep.mk rfl fun vs W hk hd => ?_)
        clear hd
        obtain ⟨c0, c1, c2, c3, c4, d0, d1, d2, d3, cx⟩ := HTC4.out W (hk.elim fun k h => h.turned)
        clear hk
        simp only [fillA, fillL, dstL, List.take_succ_cons, List.take_zero, List.filterMap_cons, List.filterMap_nil, List.contains_cons, List.contains_nil, Nat.reduceAdd, Nat.zero_add, Nat.reduceBEq, Bool.or_false, Bool.or_true, Bool.false_eq_true, ↓reduceIte]
        go_wp2_with fail
        exact ⟨by trivial, World.grownBy.refl _ _, rfl⟩
      · refine bifF rfl (FreeStep.mk rfl fun vs W hk hd => ?_)
        clear hd
        clear hk
        simp only [fillA, fillL, dstL, List.take_succ_cons, List.take_zero, List.filterMap_cons, List.filterMap_nil, List.contains_cons, List.contains_nil, Nat.reduceAdd, Nat.zero_add, Nat.reduceBEq, Bool.or_false, Bool.or_true, Bool.false_eq_true, ↓reduceIte]
        go_wp2_with fail
        exact ⟨by trivial, World.grownBy.refl _ _, rfl⟩
      · refine bifF rfl (FreeStep.mk rfl fun vs W hk hd => ?_)
        clear hd
        clear hk
        simp only [fillA, fillL, dstL, List.take_succ_cons, List.take_zero, List.filterMap_cons, List.filterMap_nil, List.contains_cons, List.contains_nil, Nat.reduceAdd, Nat.zero_add, Nat.reduceBEq, Bool.or_false, Bool.or_true, Bool.false_eq_true, ↓reduceIte]
        go_wp2_with fail
        exact ⟨by trivial, World.grownBy.refl _ _, rfl⟩
      · refine bifF rfl (FreeStep.mk rfl fun vs W hk hd => ?_)
        clear hd
        obtain ⟨c0, c1, c2, c3, c4, d0, d1, d2, d3, cx⟩ := HTC4.out W (hk.elim fun k h => h.turned)
        clear hk
        simp only [fillA, fillL, dstL, List.take_succ_cons, List.take_zero, List.filterMap_cons, List.filterMap_nil, List.contains_cons, List.contains_nil, Nat.reduceAdd, Nat.zero_add, Nat.reduceBEq, Bool.or_false, Bool.or_true, Bool.false_eq_true, ↓reduceIte]
        go_wp2_with fail
        exact ⟨by trivial, World.grownBy.refl _ _, rfl⟩
      · refine bifF rfl (FreeStep.mk rfl fun vs W hk hd => ?_)
        clear hd
        obtain ⟨c0, c1, c2, c3, c4, d0, d1, d2, d3, cx⟩ := HTC4.out W (hk.elim fun k h => h.turned)
        clear hk
        simp only [fillA, fillL, dstL, List.take_succ_cons, List.take_zero, List.filterMap_cons, List.filterMap_nil, List.contains_cons, List.contains_nil, Nat.reduceAdd, Nat.zero_add, Nat.reduceBEq, Bool.or_false, Bool.or_true, Bool.false_eq_true, ↓reduceIte]
        go_wp2_with fail
        exact ⟨by trivial, World.grownBy.refl _ _, rfl⟩
      · refine bifT rfl (LinkStep.mk rfl fun vs W hS hd => ?_)
        replace hS : SplSta w0 w4 wb mb lb p k pl rows f a m n nodes N D L nv 0 vs W := hS
        clear hd
        obtain ⟨hT, hw, hv⟩ := hS
        simp only [fillA, fillL, dstL, List.take_succ_cons, List.take_zero, List.filterMap_cons, List.filterMap_nil, List.contains_cons, List.contains_nil, Nat.reduceAdd, Nat.zero_add, Nat.reduceBEq, Bool.or_false, Bool.or_true, Bool.false_eq_true, ↓reduceIte]
        rw [hv]
        go_wp2_with fail
        exact ⟨by trivial, Turned.refl _ _ _, ⟨hT, hw, rfl⟩, trivial⟩
      · refine bifT rfl (LinkStep.mk rfl fun vs W hS hd => ?_)
        replace hS : SplSta w0 w4 wb mb lb p k pl rows f a m n nodes N D L nv 1 vs W := hS
        have e71 : vs 71 = (.pointer (some ⟨wb, 0, none⟩)) := hd 4 (by kernel_rfl)
        have e72 : vs 72 = (.pointer (some ⟨bs, 0, none⟩)) := hd 5 (by kernel_rfl)
        have e73 : vs 73 = (.agg #[pv, rv, nvo]) := hd 6 (by kernel_rfl)
        have e74 : vs 74 = (.agg #[.int .i64 (a : Int), .int .i64 c]) := hd 7 (by kernel_rfl)
        clear hd
        obtain ⟨hT, hw, hv⟩ := hS
        have hxx := (HTC4.out W hT).2.2.2.2.2.2.2.2.2
        simp only [fillA, fillL, dstL, List.take_succ_cons, List.take_zero, List.filterMap_cons, List.filterMap_nil, List.contains_cons, List.contains_nil, Nat.reduceAdd, Nat.zero_add, Nat.reduceBEq, Bool.or_false, Bool.or_true, Bool.false_eq_true, ↓reduceIte]
        rw [e71, e72, e73, e74]
        rw [hv]
        go_wp2_with (go_at_call 145; refine (IA.out _ hxx hw).mono ?_; rintro e w5 ⟨u5, NR5, D5, L5, rfl, hn5, hT5, hw5, hk5, hf5⟩)
        exact ⟨by trivial, hT5, ⟨NR5, D5, L5, hn5, hT.trans hT5, hw5, hk5, fun x y h1 h2 => (hf5 x y h1 h2).1, fun x y h1 h2 => (hf5 x y h1 h2).2⟩, trivial⟩
      · refine bifT rfl (LinkStep.mk rfl fun vs W hS hd => ?_)
        replace hS : SplSta w0 w4 wb mb lb p k pl rows f a m n nodes N D L nv 2 vs W := hS
        have e67 : vs 67 = (.pointer (some ⟨wb, 0, none⟩)) := hd 0 (by kernel_rfl)
        have e68 : vs 68 = (.pointer (some ⟨bs, 0, none⟩)) := hd 1 (by kernel_rfl)
        have e69 : vs 69 = (.agg #[pv, rv, nvo]) := hd 2 (by kernel_rfl)
        have e70 : vs 70 = (.agg #[.int .i64 c, .int .i64 b]) := hd 3 (by kernel_rfl)
        clear hd
        obtain ⟨NR5, D5, L5, hn5, hT, hw, hk5, hfd, hfl⟩ := hS
        have hxx := (HTC4.out W hT).2.2.2.2.2.2.2.2.2
        have hL5 : ∀ x y, ((a + m : Nat) : Int) ≤ x → y ≤ ((a + m : Nat) : Int) + ((n - m : Nat) : Int) → x < y → L5 x y = none := fun x y h1 h2 h3 => by rw [hfl x y h3 (fun h => by have := HLB.out; omega)]; exact HLN.out x y (by omega) (by have := HLB.out; omega) h3
        simp only [fillA, fillL, dstL, List.take_succ_cons, List.take_zero, List.filterMap_cons, List.filterMap_nil, List.contains_cons, List.contains_nil, Nat.reduceAdd, Nat.zero_add, Nat.reduceBEq, Bool.or_false, Bool.or_true, Bool.false_eq_true, ↓reduceIte]
        rw [e67, e68, e69, e70]
        go_wp2_with (go_at_call 145; refine (IB.out _ (vs 76) NR5 D5 L5 hxx hw hn5 hL5).mono ?_; rintro e w5 ⟨u6, NR6, D6, L6, rfl, hn6, hT6, hw6, hk6, hf6⟩)
        exact ⟨by trivial, hT6, ⟨NR6, D6, L6, by rw [List.drop_drop] at hn6; exact hn6, hT.trans hT6, hw6.mono (by have := HLB.out; omega), hk5.congr HLB.out.1 (fun x y h1 h2 h3 => (hf6 x y h3 (fun h => by have := HLB.out; omega)).1) (fun x y h1 h2 h3 => (hf6 x y h3 (fun h => by have := HLB.out; omega)).2), hk6, fun x y h1 h2 => by rw [(hf6 x y h1 (fun h => h2 (by have := HLB.out; omega))).1]; exact hfd x y h1 (fun h => h2 (by have := HLB.out; omega)), fun x y h1 h2 => by rw [(hf6 x y h1 (fun h => h2 (by have := HLB.out; omega))).2]; exact hfl x y h1 (fun h => h2 (by have := HLB.out; omega))⟩, trivial⟩
      · refine bifT rfl (LinkStep.mk rfl fun vs W hS hd => ?_)
        replace hS : SplSta w0 w4 wb mb lb p k pl rows f a m n nodes N D L nv 3 vs W := hS
        clear hd
        simp only [fillA, fillL, dstL, List.take_succ_cons, List.take_zero, List.filterMap_cons, List.filterMap_nil, List.contains_cons, List.contains_nil, Nat.reduceAdd, Nat.zero_add, Nat.reduceBEq, Bool.or_false, Bool.or_true, Bool.false_eq_true, ↓reduceIte]
        go_wp2_with fail
        exact ⟨by trivial, Turned.refl _ _ _, hS, trivial⟩
    · intro vs w6 hall hS
      replace hS : SplSta w0 w4 wb mb lb p k pl rows f a m n nodes N D L nv 4 vs w6 := hS
      clear hall
      simp only [fillA, fillL, dstL, List.take_succ_cons, List.take_zero, List.filterMap_cons, List.filterMap_nil, List.contains_cons, List.contains_nil, Nat.reduceAdd, Nat.zero_add, Nat.reduceBEq, Bool.or_false, Bool.or_true, Bool.false_eq_true, ↓reduceIte]
      obtain ⟨NR6, D6, L6, hn6, hT6, hw6, hka, hkb, hfd, hfl⟩ := hS
      generalize vs 4 = u6 at hn6 ⊢
      obtain ⟨xd, xr, hxd, hda⟩ := hka.dig
      obtain ⟨yd, yr, hyd, hdb⟩ := hkb.dig
      rw [HXC.out] at hxd
      rw [HYC.out] at hyd
      obtain ⟨rfl, -⟩ := Prod.mk.inj (Option.some.inj hxd)
      obtain ⟨rfl, -⟩ := Prod.mk.inj (Option.some.inj hyd)
      rw [HCE.out] at hda
      rw [show ((a + m : Nat) : Int) + ((n - m : Nat) : Int) = b by have := HLB.out; have := HBE.out; omega, show ((a + m : Nat) : Int) = c by have := HCE.out; omega] at hdb
      have HKA := Lib.hid hka; have HKB := Lib.hid hkb; have HFD := Lib.hid hfd; have HFL := Lib.hid hfl; have HN6 := Lib.hid hn6; have HT6 := Lib.hid hT6; have HW6 := Lib.hid hw6
      obtain ⟨x0, hx0⟩ : ∃ y, nth x 0 = y := ⟨_, rfl⟩
      obtain ⟨x1, hx1⟩ : ∃ y, nth x 1 = y := ⟨_, rfl⟩
      obtain ⟨x2, hx2⟩ : ∃ y, nth x 2 = y := ⟨_, rfl⟩
      obtain ⟨x3, hx3⟩ : ∃ y, nth x 3 = y := ⟨_, rfl⟩
      obtain ⟨z0, hz0⟩ : ∃ z, nth y 0 = z := ⟨_, rfl⟩
      obtain ⟨z1, hz1⟩ : ∃ z, nth y 1 = z := ⟨_, rfl⟩
      obtain ⟨z2, hz2⟩ : ∃ z, nth y 2 = z := ⟨_, rfl⟩
      obtain ⟨z3, hz3⟩ : ∃ z, nth y 3 = z := ⟨_, rfl⟩
      have LKA : Hid (∀ W, Ext w6 W → (Instr.lookup 177 (.map (some mb)) (.agg #[.int .i64 (a : Int), .int .i64 c]) false).run Tryz.prog W = .ok (.agg #[.int .i64 x0, .int .i64 x1, .int .i64 x2, .int .i64 x3]) W) := Lib.hid fun W hx => by
        have := (hw6.ext hx).look HWF.out.1 HWF.out.2.2 hda
        rw [digV_four HL1.out, hx0, hx1, hx2, hx3] at this; exact this
      have LKB : Hid (∀ W, Ext w6 W → (Instr.lookup 177 (.map (some mb)) (.agg #[.int .i64 c, .int .i64 b]) false).run Tryz.prog W = .ok (.agg #[.int .i64 z0, .int .i64 z1, .int .i64 z2, .int .i64 z3]) W) := Lib.hid fun W hx => by
        have := (hw6.ext hx).look HWF.out.2.2 HWF.out.2.1 hdb
        rw [digV_four HL2.out, hz0, hz1, hz2, hz3] at this; exact this
      have HX0 := Lib.hid hx0; have HX1' := Lib.hid hx1; have HX2 := Lib.hid hx2; have HX3 := Lib.hid hx3
      have HZ0 := Lib.hid hz0; have HZ1 := Lib.hid hz1; have HZ2 := Lib.hid hz2; have HZ3 := Lib.hid hz3
      obtain ⟨-, -, -, k3, k4, g0, g1, g2, g3, -⟩ := HTC4.out w6 hT6
      have m0 : w6.cell? ⟨wb, 0, none⟩ = some (.map (some mb)) := hw6.blk.cell 0
      clear hka hkb hfd hfl hn6 hw6 hxd hyd hda hdb hx0 hx1 hx2 hx3 hz0 hz1 hz2 hz3 hT6
      go_upto_region 10 with (fail)
      refine wp_region_mark 16 rfl (phiM (mb := mb) (lb := lb) [SM.eq (.pointer (some ⟨wb, 0, none⟩)), SM.eq (.pointer (some ⟨wb, 0, none⟩)), SM.eq (.pointer (some ⟨wb, 0, none⟩)), SM.eq (.map (some mb)), SM.eq (.agg #[.int .i64 (a : Int), .int .i64 c]), SM.eq (.agg #[.int .i64 x0, .int .i64 x1, .int .i64 x2, .int .i64 x3]), SM.eq (.pointer (some ⟨wb, 0, none⟩)), SM.eq (.pointer (some ⟨wb, 0, none⟩)), SM.eq (.pointer (some ⟨wb, 0, none⟩)), SM.eq (.map (some mb)), SM.eq (.agg #[.int .i64 c, .int .i64 b]), SM.eq (.agg #[.int .i64 z0, .int .i64 z1, .int .i64 z2, .int .i64 z3]), SM.top, SM.top, SM.top, SM.top]) [12, 13, 14, 15] (ArrSta w6 [.int .i64 x0, .int .i64 x1, .int .i64 x2, .int .i64 x3] [.int .i64 z0, .int .i64 z1, .int .i64 z2, .int .i64 z3]) (fun _ _ => True) (by kernel_rfl) (by kernel_rfl) (by kernel_rfl) (fun j hj u W W' hu hg => by have hj2 : j = 0 ∨ j = 1 ∨ j = 2 ∨ j = 3 ∨ j = 4 ∨ j = 5 ∨ j = 6 ∨ j = 7 ∨ j = 8 ∨ j = 9 ∨ j = 10 ∨ j = 11 ∨ j = 12 ∨ j = 13 ∨ j = 14 ∨ j = 15 := (by have : j < 16 := hj; omega); rcases hj2 with rfl | rfl | rfl | rfl | rfl | rfl | rfl | rfl | rfl | rfl | rfl | rfl | rfl | rfl | rfl | rfl <;> exact hu) (fun j hj hd u W => by have hj2 : j = 12 ∨ j = 13 ∨ j = 14 ∨ j = 15 := (by simpa using hj); rcases hj2 with rfl | rfl | rfl | rfl <;> trivial) (fun s s' vs vs' W W' h hg hs hv => h.free hg (hs 12 rfl) (hs 13 rfl) (hs 14 rfl) (hs 15 rfl) (hv 12 rfl 16 rfl) (hv 13 rfl 17 rfl)) ⟨Ext.drew _, fun h => (nomatch h), fun h => (nomatch h), fun h => (nomatch h), fun h => (nomatch h), fun h => (nomatch h)⟩ (by kernel_rfl) ?_ ?_
      · refine ⟨?_, ?_, ?_, ?_, ?_, ?_, ?_, ?_, ?_, ?_, ?_, ?_, ?_, ?_, ?_, ?_, trivial⟩
        · refine bifF rfl (FreeStep.mk rfl fun vs W hk hd => ?_)
          clear hd
          clear hk
          simp only [fillA, fillL, dstL, List.take_succ_cons, List.take_zero, List.filterMap_cons, List.filterMap_nil, List.contains_cons, List.contains_nil, Nat.reduceAdd, Nat.zero_add, Nat.reduceBEq, Bool.or_false, Bool.or_true, Bool.false_eq_true, ↓reduceIte]
          go_wp2_with fail
          exact ⟨by trivial, World.grownBy.refl _ _, rfl⟩
        · refine bifF rfl (FreeStep.mk rfl fun vs W hk hd => ?_)
          have e78 : vs 78 = (.pointer (some ⟨wb, 0, none⟩)) := hd 0 (by kernel_rfl)
          clear hd
          clear hk
          simp only [fillA, fillL, dstL, List.take_succ_cons, List.take_zero, List.filterMap_cons, List.filterMap_nil, List.contains_cons, List.contains_nil, Nat.reduceAdd, Nat.zero_add, Nat.reduceBEq, Bool.or_false, Bool.or_true, Bool.false_eq_true, ↓reduceIte]
          rw [e78]
          go_wp2_with fail
          exact ⟨by trivial, World.grownBy.refl _ _, rfl⟩
        · refine bifF rfl (FreeStep.mk rfl fun vs W hk hd => ?_)
          have e79 : vs 79 = (.pointer (some ⟨wb, 0, none⟩)) := hd 1 (by kernel_rfl)
          clear hd
          clear hk
          simp only [fillA, fillL, dstL, List.take_succ_cons, List.take_zero, List.filterMap_cons, List.filterMap_nil, List.contains_cons, List.contains_nil, Nat.reduceAdd, Nat.zero_add, Nat.reduceBEq, Bool.or_false, Bool.or_true, Bool.false_eq_true, ↓reduceIte]
          rw [e79]
          go_wp2_with fail
          exact ⟨by trivial, World.grownBy.refl _ _, rfl⟩
        · refine bifF rfl (FreeStep.mk rfl fun vs W hk hd => ?_)
          have e80 : vs 80 = (.pointer (some ⟨wb, 0, none⟩)) := hd 2 (by kernel_rfl)
          clear hd
          obtain ⟨-, s, hx, -⟩ := hk
          simp only [fillA, fillL, dstL, List.take_succ_cons, List.take_zero, List.filterMap_cons, List.filterMap_nil, List.contains_cons, List.contains_nil, Nat.reduceAdd, Nat.zero_add, Nat.reduceBEq, Bool.or_false, Bool.or_true, Bool.false_eq_true, ↓reduceIte]
          rw [e80]
          have c0 := hx.cell m0
          go_wp2_with fail
          exact ⟨by trivial, World.grownBy.refl _ _, rfl⟩
        · refine bifF rfl (FreeStep.mk rfl fun vs W hk hd => ?_)
          clear hd
          obtain ⟨-, s, hx, -⟩ := hk
          simp only [fillA, fillL, dstL, List.take_succ_cons, List.take_zero, List.filterMap_cons, List.filterMap_nil, List.contains_cons, List.contains_nil, Nat.reduceAdd, Nat.zero_add, Nat.reduceBEq, Bool.or_false, Bool.or_true, Bool.false_eq_true, ↓reduceIte]
          have c0 := hx.cell g0
          have c1 := hx.cell g1
          go_wp2_with fail
          exact ⟨by trivial, World.grownBy.refl _ _, rfl⟩
        · refine bifF rfl (FreeStep.mk rfl fun vs W hk hd => ?_)
          have e81 : vs 81 = (.map (some mb)) := hd 3 (by kernel_rfl)
          have e82 : vs 82 = (.agg #[.int .i64 (a : Int), .int .i64 c]) := hd 4 (by kernel_rfl)
          clear hd
          obtain ⟨-, s, hx, -⟩ := hk
          simp only [fillA, fillL, dstL, List.take_succ_cons, List.take_zero, List.filterMap_cons, List.filterMap_nil, List.contains_cons, List.contains_nil, Nat.reduceAdd, Nat.zero_add, Nat.reduceBEq, Bool.or_false, Bool.or_true, Bool.false_eq_true, ↓reduceIte]
          rw [e81, e82]
          have hl := LKA.out W hx
          go_wp2_with fail
          exact ⟨by trivial, World.grownBy.refl _ _, rfl⟩
        · refine bifF rfl (FreeStep.mk rfl fun vs W hk hd => ?_)
          clear hd
          clear hk
          simp only [fillA, fillL, dstL, List.take_succ_cons, List.take_zero, List.filterMap_cons, List.filterMap_nil, List.contains_cons, List.contains_nil, Nat.reduceAdd, Nat.zero_add, Nat.reduceBEq, Bool.or_false, Bool.or_true, Bool.false_eq_true, ↓reduceIte]
          go_wp2_with fail
          exact ⟨by trivial, World.grownBy.refl _ _, rfl⟩
        · refine bifF rfl (FreeStep.mk rfl fun vs W hk hd => ?_)
          have e84 : vs 84 = (.pointer (some ⟨wb, 0, none⟩)) := hd 6 (by kernel_rfl)
          clear hd
          clear hk
          simp only [fillA, fillL, dstL, List.take_succ_cons, List.take_zero, List.filterMap_cons, List.filterMap_nil, List.contains_cons, List.contains_nil, Nat.reduceAdd, Nat.zero_add, Nat.reduceBEq, Bool.or_false, Bool.or_true, Bool.false_eq_true, ↓reduceIte]
          rw [e84]
          go_wp2_with fail
          exact ⟨by trivial, World.grownBy.refl _ _, rfl⟩
        · refine bifF rfl (FreeStep.mk rfl fun vs W hk hd => ?_)
          have e85 : vs 85 = (.pointer (some ⟨wb, 0, none⟩)) := hd 7 (by kernel_rfl)
          clear hd
          clear hk
          simp only [fillA, fillL, dstL, List.take_succ_cons, List.take_zero, List.filterMap_cons, List.filterMap_nil, List.contains_cons, List.contains_nil, Nat.reduceAdd, Nat.zero_add, Nat.reduceBEq, Bool.or_false, Bool.or_true, Bool.false_eq_true, ↓reduceIte]
          rw [e85]
          go_wp2_with fail
          exact ⟨by trivial, World.grownBy.refl _ _, rfl⟩
        · refine bifF rfl (FreeStep.mk rfl fun vs W hk hd => ?_)
          have e86 : vs 86 = (.pointer (some ⟨wb, 0, none⟩)) := hd 8 (by kernel_rfl)
          clear hd
          obtain ⟨-, s, hx, -⟩ := hk
          simp only [fillA, fillL, dstL, List.take_succ_cons, List.take_zero, List.filterMap_cons, List.filterMap_nil, List.contains_cons, List.contains_nil, Nat.reduceAdd, Nat.zero_add, Nat.reduceBEq, Bool.or_false, Bool.or_true, Bool.false_eq_true, ↓reduceIte]
          rw [e86]
          have c0 := hx.cell m0
          go_wp2_with fail
          exact ⟨by trivial, World.grownBy.refl _ _, rfl⟩
        · refine bifF rfl (FreeStep.mk rfl fun vs W hk hd => ?_)
          clear hd
          obtain ⟨-, s, hx, -⟩ := hk
          simp only [fillA, fillL, dstL, List.take_succ_cons, List.take_zero, List.filterMap_cons, List.filterMap_nil, List.contains_cons, List.contains_nil, Nat.reduceAdd, Nat.zero_add, Nat.reduceBEq, Bool.or_false, Bool.or_true, Bool.false_eq_true, ↓reduceIte]
          have c0 := hx.cell g2
          have c1 := hx.cell g3
          go_wp2_with fail
          exact ⟨by trivial, World.grownBy.refl _ _, rfl⟩
        · refine bifF rfl (FreeStep.mk rfl fun vs W hk hd => ?_)
          have e87 : vs 87 = (.map (some mb)) := hd 9 (by kernel_rfl)
          have e88 : vs 88 = (.agg #[.int .i64 c, .int .i64 b]) := hd 10 (by kernel_rfl)
          clear hd
          obtain ⟨-, s, hx, -⟩ := hk
          simp only [fillA, fillL, dstL, List.take_succ_cons, List.take_zero, List.filterMap_cons, List.filterMap_nil, List.contains_cons, List.contains_nil, Nat.reduceAdd, Nat.zero_add, Nat.reduceBEq, Bool.or_false, Bool.or_true, Bool.false_eq_true, ↓reduceIte]
          rw [e87, e88]
          have hl := LKB.out W hx
          go_wp2_with fail
          exact ⟨by trivial, World.grownBy.refl _ _, rfl⟩
        · refine bifT rfl (MarkStep.mk rfl fun s vs W hS hsi hsd hd => ?_)
          obtain ⟨hx, h4, h5, ha, hb, hne⟩ := hS
          clear hd
          simp only [fillA, fillL, dstL, List.take_succ_cons, List.take_zero, List.filterMap_cons, List.filterMap_nil, List.contains_cons, List.contains_nil, Nat.reduceAdd, Nat.zero_add, Nat.reduceBEq, Bool.or_false, Bool.or_true, Bool.false_eq_true, ↓reduceIte]
          go_wp2_with fail
          have hs14 : s 14 = false := by cases hq : s 14 with | false => rfl | true => exact absurd (h4 hq) (by rw [hsi]; decide)
          exact ⟨by trivial, trivial, ⟨hx.trans (Ext.alloc _ _), fun _ => rfl, h5, fun _ => ⟨W.heap.size, rfl, hx.size, by rw [show updB s 12 14 = s 14 from rfl, hs14]; exact BlkOf.new W [.int .i64 0, .int .i64 0, .int .i64 0, .int .i64 0] 182⟩, fun h => let ⟨q, a, b, c⟩ := hb h; ⟨q, a, b, c.ext (Ext.alloc _ _)⟩, fun _ h e => by obtain ⟨q, a, b, c⟩ := hb h; have e2 : (Value.pointer (some ⟨W.heap.size, 0, none⟩)) = vs 17 := e; rw [a] at e2; injection e2 with e2; injection e2 with e2; injection e2 with e2; have := c.lt; omega⟩, trivial⟩
        · refine bifT rfl (MarkStep.mk rfl fun s vs W hS hsi hsd hd => ?_)
          obtain ⟨hx, h4, h5, ha, hb, hne⟩ := hS
          clear hd
          simp only [fillA, fillL, dstL, List.take_succ_cons, List.take_zero, List.filterMap_cons, List.filterMap_nil, List.contains_cons, List.contains_nil, Nat.reduceAdd, Nat.zero_add, Nat.reduceBEq, Bool.or_false, Bool.or_true, Bool.false_eq_true, ↓reduceIte]
          go_wp2_with fail
          have hs15 : s 15 = false := by cases hq : s 15 with | false => rfl | true => exact absurd (h5 hq) (by rw [hsi]; decide)
          exact ⟨by trivial, trivial, ⟨hx.trans (Ext.alloc _ _), h4, fun _ => rfl, fun h => let ⟨q, a, b, c⟩ := ha h; ⟨q, a, b, c.ext (Ext.alloc _ _)⟩, fun _ => ⟨W.heap.size, rfl, hx.size, by rw [show updB s 13 15 = s 15 from rfl, hs15]; exact BlkOf.new W [.int .i64 0, .int .i64 0, .int .i64 0, .int .i64 0] 182⟩, fun h _ e => by obtain ⟨q, a, b, c⟩ := ha h; have e2 : vs 16 = (Value.pointer (some ⟨W.heap.size, 0, none⟩)) := e; rw [a] at e2; injection e2 with e2; injection e2 with e2; injection e2 with e2; have := c.lt; omega⟩, trivial⟩
        · refine bifT rfl (MarkStep.mk rfl fun s vs W hS hsi hsd hd => ?_)
          obtain ⟨hx, h4, h5, ha, hb, hne⟩ := hS
          have e83 : vs 83 = (.agg #[.int .i64 x0, .int .i64 x1, .int .i64 x2, .int .i64 x3]) := hd 5 (by kernel_rfl)
          have s12 := hsd 12 (by kernel_rfl)
          have s13 := hsd 13 (by kernel_rfl)
          obtain ⟨qa, a1, a2, a3⟩ := ha s12
          obtain ⟨qb, b1, b2, b3⟩ := hb s13
          have hab := hne s12 s13
          rw [a1, b1] at hab
          have hqq : qa ≠ qb := fun e => hab (by rw [e])
          rw [hsi, if_neg (by decide)] at a3
          have c0 : W.cell? ⟨qa, 0, none⟩ = some (.int .i64 0) := a3.cell 0
          have f0 : W.frozen? ⟨qa, 0, none⟩ = false := a3.free 0
          have c1 : W.cell? ⟨qa, 1, none⟩ = some (.int .i64 0) := a3.cell 1
          have f1 : W.frozen? ⟨qa, 1, none⟩ = false := a3.free 1
          have c2 : W.cell? ⟨qa, 2, none⟩ = some (.int .i64 0) := a3.cell 2
          have f2 : W.frozen? ⟨qa, 2, none⟩ = false := a3.free 2
          have c3 : W.cell? ⟨qa, 3, none⟩ = some (.int .i64 0) := a3.cell 3
          have f3 : W.frozen? ⟨qa, 3, none⟩ = false := a3.free 3
          have m1 := (((a3.set 0 (.int .i64 x0)).set 1 (.int .i64 x1)).set 2 (.int .i64 x2)).set 3 (.int .i64 x3)
          have g1 := grown_one (grown_one (grown_one (setCell_grown W qa 0 (.int .i64 x0)) (setCell_grown _ qa 1 (.int .i64 x1))) (setCell_grown _ qa 2 (.int .i64 x2))) (setCell_grown _ qa 3 (.int .i64 x3))
          clear hd
          simp only [fillA, fillL, dstL, List.take_succ_cons, List.take_zero, List.filterMap_cons, List.filterMap_nil, List.contains_cons, List.contains_nil, Nat.reduceAdd, Nat.zero_add, Nat.reduceBEq, Bool.or_false, Bool.or_true, Bool.false_eq_true, ↓reduceIte]
          rw [e83, a1]
          go_wp2_with fail
          exact ⟨by trivial, trivial, ⟨Below.grown hx.below g1 hx.size (fun q e => by cases e; exact a2), fun _ => s12, h5, fun _ => ⟨qa, a1, a2, by rw [show updB s 14 14 = true from rfl, if_pos rfl]; exact m1⟩, fun _ => ⟨qb, b1, b2, b3.grown g1 (fun e => hqq ((Option.some.inj e).symm))⟩, fun _ _ => by rw [show updD vs none _ = vs from rfl, a1, b1]; exact hab⟩, trivial⟩
        · refine bifT rfl (MarkStep.mk rfl fun s vs W hS hsi hsd hd => ?_)
          obtain ⟨hx, h4, h5, ha, hb, hne⟩ := hS
          have e89 : vs 89 = (.agg #[.int .i64 z0, .int .i64 z1, .int .i64 z2, .int .i64 z3]) := hd 11 (by kernel_rfl)
          have s12 := hsd 12 (by kernel_rfl)
          have s13 := hsd 13 (by kernel_rfl)
          obtain ⟨qa, a1, a2, a3⟩ := ha s12
          obtain ⟨qb, b1, b2, b3⟩ := hb s13
          have hab := hne s12 s13
          rw [a1, b1] at hab
          have hqq : qa ≠ qb := fun e => hab (by rw [e])
          rw [hsi, if_neg (by decide)] at b3
          have c0 : W.cell? ⟨qb, 0, none⟩ = some (.int .i64 0) := b3.cell 0
          have f0 : W.frozen? ⟨qb, 0, none⟩ = false := b3.free 0
          have c1 : W.cell? ⟨qb, 1, none⟩ = some (.int .i64 0) := b3.cell 1
          have f1 : W.frozen? ⟨qb, 1, none⟩ = false := b3.free 1
          have c2 : W.cell? ⟨qb, 2, none⟩ = some (.int .i64 0) := b3.cell 2
          have f2 : W.frozen? ⟨qb, 2, none⟩ = false := b3.free 2
          have c3 : W.cell? ⟨qb, 3, none⟩ = some (.int .i64 0) := b3.cell 3
          have f3 : W.frozen? ⟨qb, 3, none⟩ = false := b3.free 3
          have m1 := (((b3.set 0 (.int .i64 z0)).set 1 (.int .i64 z1)).set 2 (.int .i64 z2)).set 3 (.int .i64 z3)
          have g1 := grown_one (grown_one (grown_one (setCell_grown W qb 0 (.int .i64 z0)) (setCell_grown _ qb 1 (.int .i64 z1))) (setCell_grown _ qb 2 (.int .i64 z2))) (setCell_grown _ qb 3 (.int .i64 z3))
          clear hd
          simp only [fillA, fillL, dstL, List.take_succ_cons, List.take_zero, List.filterMap_cons, List.filterMap_nil, List.contains_cons, List.contains_nil, Nat.reduceAdd, Nat.zero_add, Nat.reduceBEq, Bool.or_false, Bool.or_true, Bool.false_eq_true, ↓reduceIte]
          rw [e89, b1]
          go_wp2_with fail
          exact ⟨by trivial, trivial, ⟨Below.grown hx.below g1 hx.size (fun q e => by cases e; exact b2), h4, fun _ => s13, fun _ => ⟨qa, a1, a2, a3.grown g1 (fun e => hqq (Option.some.inj e))⟩, fun _ => ⟨qb, b1, b2, by rw [show updB s 15 15 = true from rfl, if_pos rfl]; exact m1⟩, fun _ _ => by rw [show updD vs none _ = vs from rfl, a1, b1]; exact hab⟩, trivial⟩
      · intro s vs w7 hall hsc hS
        obtain ⟨hx7, -, -, ha, hb, hne⟩ := hS
        obtain ⟨qa, a1, a2, a3⟩ := ha (hsc 12 rfl)
        obtain ⟨qb, b1, b2, b3⟩ := hb (hsc 13 rfl)
        rw [hsc 14 rfl, if_pos rfl] at a3
        rw [hsc 15 rfl, if_pos rfl] at b3
        clear hall hsc ha hb hne
        simp only [fillA, fillL, dstL, List.take_succ_cons, List.take_zero, List.filterMap_cons, List.filterMap_nil, List.contains_cons, List.contains_nil, Nat.reduceAdd, Nat.zero_add, Nat.reduceBEq, Bool.or_false, Bool.or_true, Bool.false_eq_true, ↓reduceIte]
        rw [a1, b1]
        have HXI := Lib.hid (ints_blk4 a3 HL1.out HX0.out HX1'.out HX2.out HX3.out)
        have HYI := Lib.hid (ints_blk4 b3 HL2.out HZ0.out HZ1.out HZ2.out HZ3.out)
        have HX67 := Lib.hid hx7
        have HX7 := Lib.hid ((HTC4.out w6 HT6.out).2.2.2.2.2.2.2.2.2.trans hx7)
        replace k3 := hx7.cell k3
        replace k4 := hx7.cell k4
        clear a1 a2 a3 b1 b2 b3 hx7 m0 g0 g1 g2 g3
        go_upto_region 11 with (fail)
        refine wp_region_ext 4 [SP.ints x, SP.ints y, SP.rows [x, y], SP.ints (1 :: (x ++ y))] (by kernel_rfl) (by kernel_rfl) (by kernel_rfl) ?_ ?_
        · refine ⟨?_, ?_, ?_, ?_, trivial⟩
          · refine ExtStep.mk rfl fun vs W hx hd => ?_
            clear hd
            simp only [fillA, fillL, dstL, List.take_succ_cons, List.take_zero, List.filterMap_cons, List.filterMap_nil, List.contains_cons, List.contains_nil, Nat.reduceAdd, Nat.zero_add, Nat.reduceBEq, Bool.or_false, Bool.or_true, Bool.false_eq_true, ↓reduceIte]
            go_wp2_with fail
            exact ⟨by trivial, Ext.refl _, HXI.out.ext hx⟩
          · refine ExtStep.mk rfl fun vs W hx hd => ?_
            clear hd
            simp only [fillA, fillL, dstL, List.take_succ_cons, List.take_zero, List.filterMap_cons, List.filterMap_nil, List.contains_cons, List.contains_nil, Nat.reduceAdd, Nat.zero_add, Nat.reduceBEq, Bool.or_false, Bool.or_true, Bool.false_eq_true, ↓reduceIte]
            go_wp2_with fail
            exact ⟨by trivial, Ext.refl _, HYI.out.ext hx⟩
          · refine ExtStep.mk rfl fun vs W hx hd => ?_
            have h90 : Ints W (vs 90) x := hd 0 (by kernel_rfl)
            have h91 : Ints W (vs 91) y := hd 1 (by kernel_rfl)
            clear hd
            simp only [fillA, fillL, dstL, List.take_succ_cons, List.take_zero, List.filterMap_cons, List.filterMap_nil, List.contains_cons, List.contains_nil, Nat.reduceAdd, Nat.zero_add, Nat.reduceBEq, Bool.or_false, Bool.or_true, Bool.false_eq_true, ↓reduceIte]
            obtain ⟨a3, c3, e90⟩ := h90.shape
            obtain ⟨a7, c7, e91⟩ := h91.shape
            rw [e90] at h90
            rw [e91] at h91
            rw [e90, e91]
            go_wp2_with fail
            exact ⟨by trivial, Ext.alloc _ _, ⟨_, rows_lit2 h90 h91 _⟩⟩
          · refine ExtStep.mk rfl fun vs W hx hd => ?_
            have h92 : Rws W (vs 92) [x, y] := hd 2 (by kernel_rfl)
            clear hd
            simp only [fillA, fillL, dstL, List.take_succ_cons, List.take_zero, List.filterMap_cons, List.filterMap_nil, List.contains_cons, List.contains_nil, Nat.reduceAdd, Nat.zero_add, Nat.reduceBEq, Bool.or_false, Bool.or_true, Bool.false_eq_true, ↓reduceIte]
            obtain ⟨R92, h92⟩ := h92
            go_wp2_with (go_at_call 126; refine (tjoined_any 1 h92 (by have := HL1.out; have := HL2.out; simp; omega) (by simp)).mono ?_; rintro e w3 ⟨v3, rfl, hx3, hi3⟩; replace hi3 : Ints w3 v3 (1 :: (x ++ y)) := by simpa using hi3)
            exact ⟨by trivial, hx3, hi3⟩
        · intro vs w8 hx8 hall
          have h93 : Ints w8 (vs 93) (1 :: (x ++ y)) := hall.at 3 (by omega) rfl
          clear hall
          simp only [fillA, fillL, dstL, List.take_succ_cons, List.take_zero, List.filterMap_cons, List.filterMap_nil, List.contains_cons, List.contains_nil, Nat.reduceAdd, Nat.zero_add, Nat.reduceBEq, Bool.or_false, Bool.or_true, Bool.false_eq_true, ↓reduceIte]
          rw [HLSE.out] at h93
          have HVL := Lib.hid h93
          have HXE := Lib.hid (HX7.out.trans hx8)
          have HX68 := Lib.hid (HX67.out.trans hx8)
          obtain ⟨NQ, hNQ⟩ : ∃ NQ, N + (2 * n - 2) = NQ := ⟨_, rfl⟩
          have HWE := Lib.hid (show WayAt w8 wb mb lb NQ D6 L6 from by rw [← hNQ]; exact HW6.out.ext HX68.out)
          have HNQ := Lib.hid hNQ
          have HNE := Lib.hid (show NQ ≤ 1000000 from by have := HNB.out; omega)
          replace k3 := hx8.cell k3
          replace k4 := hx8.cell k4
          have m0 : w8.cell? ⟨wb, 0, none⟩ = some (.map (some mb)) := HWE.out.blk.cell 0
          have m1 : w8.cell? ⟨wb, 1, none⟩ = some (.map (some lb)) := HWE.out.blk.cell 1
          clear h93 hx8 hNQ
          generalize vs 93 = vl at *
          have HNN := Lib.hid HWE.out.n1
          have HTC : Hid (∀ W, Turned mb lb w8 W → W.cell? ⟨wb, 0, none⟩ = some (.map (some mb)) ∧ W.cell? ⟨wb, 1, none⟩ = some (.map (some lb)) ∧ W.cell? ⟨q1 + 1, 0, none⟩ = some (.int .i64 a) ∧ W.cell? ⟨q1 + 1, 1, none⟩ = some (.int .i64 b) ∧ Ext w0 W ∧ Ints W vl ls ∧ lb < W.heap.size ∧ mb < W.heap.size) := Lib.hid fun W hT => ⟨hT.cell m0 HWE.out.n2 HWE.out.n3, hT.cell m1 HWE.out.n2 HWE.out.n3, hT.cell k3 (by have := HQM.out; show q1 + 1 ≠ mb; omega) (by have := HQM.out; show q1 + 1 ≠ lb; omega), hT.cell k4 (by have := HQM.out; show q1 + 1 ≠ mb; omega) (by have := HQM.out; show q1 + 1 ≠ lb; omega), hT.ext HXE.out hmb hlb, HWE.out.ints_kept hT HVL.out, by have h1 := hT.size; obtain ⟨LV, h2, -⟩ := HWE.out.lst; have := h2.lt; omega, by have h1 := hT.size; have := HWE.out.dig.lt; omega⟩
          obtain ⟨LV, HLV⟩ : ∃ LV, Hid (Mpv Tryz.prog 127 w8 lb NQ (grpM LV) ∧ ∀ x y, (L6 x y = none ∧ LV x y = none) ∨ ∃ v l, LV x y = some v ∧ L6 x y = some l ∧ Ints w8 v l) := (let ⟨LV, h1, h2⟩ := HWE.out.lst; ⟨LV, Lib.hid ⟨h1, h2⟩⟩)
          clear m0 m1 k3 k4
          generalize w8 = wE at *
          have HWF := Lib.hid (show Wf64 (a : Int) ∧ Wf64 b from ⟨HWF.out.1, HWF.out.2.1⟩)
          go_upto_region 12 with (fail)
          refine wp_region_chain 22 rfl (phiM (mb := mb) (lb := lb) [SM.eq (.pointer (some ⟨wb, 0, none⟩)), SM.eq (.pointer (some ⟨wb, 0, none⟩)), SM.eq (.pointer (some ⟨wb, 1, none⟩)), SM.eq (.map (some lb)), SM.eq (.agg #[.int .i64 (a : Int), .int .i64 b]), SM.eq (.pointer (some ⟨wb, 0, none⟩)), SM.eq (.pointer (some ⟨wb, 0, none⟩)), SM.eq (.pointer (some ⟨wb, 0, none⟩)), SM.eq (.map (some mb)), SM.eq (.agg #[.int .i64 (a : Int), .int .i64 b]), SM.eq vl, SM.eq (.pointer (some ⟨bs, 0, none⟩)), SM.eq vl, SM.ints (hashP p k ls), SM.arr (hashP p k ls), SM.eq (.agg #[.int .i64 y0, .int .i64 y1, .int .i64 y2, .int .i64 y3]), SM.top, SM.top, SM.top, SM.top, SM.top, SM.top]) [16, 17, 18, 19, 20, 21] (PutSta wE mb lb NQ D6 LV (a : Int) b vl (hashP p k ls)) (fun c W W' => W.grownBy W' (putB mb lb c)) (by kernel_rfl) (by kernel_rfl) (by kernel_rfl) (fun j _ u W W' hu hg => by rcases hg with hg | ⟨c, _, hg⟩; exact phiM_stab _ j none (.inl rfl) u W W' hu hg; exact phiM_stab _ j _ (putB_in mb lb c) u W W' hu hg) (fun j hj hd u W => by have hj2 : j = 16 ∨ j = 17 ∨ j = 18 ∨ j = 19 ∨ j = 20 ∨ j = 21 := (by simpa using hj); rcases hj2 with rfl | rfl | rfl | rfl | rfl | rfl <;> trivial) (fun k vs vs' W W' h hg hs => h.free hg (hs 0 (by decide) 110 rfl) (hs 1 (by decide) 111 rfl) (hs 3 (by decide) 112 rfl) (hs 4 (by decide) 113 rfl)) ⟨Turned.of_ext (Ext.drew _), HLV.out.1.ext (Ext.drew _), HWE.out.dig.ext (Ext.drew _)⟩ ?_ ?_
          · refine ⟨?_, ?_, ?_, ?_, ?_, ?_, ?_, ?_, ?_, ?_, ?_, ?_, ?_, ?_, ?_, ?_, ?_, ?_, ?_, ?_, ?_, ?_, trivial⟩
            · refine bifF rfl (FreeStep.mk rfl fun vs W hk hd => ?_)
              clear hd
              clear hk
              simp only [fillA, fillL, dstL, List.take_succ_cons, List.take_zero, List.filterMap_cons, List.filterMap_nil, List.contains_cons, List.contains_nil, Nat.reduceAdd, Nat.zero_add, Nat.reduceBEq, Bool.or_false, Bool.or_true, Bool.false_eq_true, ↓reduceIte]
              go_wp2_with fail
              exact ⟨by trivial, World.grownBy.refl _ _, rfl⟩
            · refine bifF rfl (FreeStep.mk rfl fun vs W hk hd => ?_)
              have e94 : vs 94 = (.pointer (some ⟨wb, 0, none⟩)) := hd 0 (by kernel_rfl)
              clear hd
              clear hk
              simp only [fillA, fillL, dstL, List.take_succ_cons, List.take_zero, List.filterMap_cons, List.filterMap_nil, List.contains_cons, List.contains_nil, Nat.reduceAdd, Nat.zero_add, Nat.reduceBEq, Bool.or_false, Bool.or_true, Bool.false_eq_true, ↓reduceIte]
              rw [e94]
              go_wp2_with fail
              exact ⟨by trivial, World.grownBy.refl _ _, rfl⟩
            · refine bifF rfl (FreeStep.mk rfl fun vs W hk hd => ?_)
              have e95 : vs 95 = (.pointer (some ⟨wb, 0, none⟩)) := hd 1 (by kernel_rfl)
              clear hd
              clear hk
              simp only [fillA, fillL, dstL, List.take_succ_cons, List.take_zero, List.filterMap_cons, List.filterMap_nil, List.contains_cons, List.contains_nil, Nat.reduceAdd, Nat.zero_add, Nat.reduceBEq, Bool.or_false, Bool.or_true, Bool.false_eq_true, ↓reduceIte]
              rw [e95]
              go_wp2_with fail
              exact ⟨by trivial, World.grownBy.refl _ _, rfl⟩
            · refine bifF rfl (FreeStep.mk rfl fun vs W hk hd => ?_)
              have e96 : vs 96 = (.pointer (some ⟨wb, 1, none⟩)) := hd 2 (by kernel_rfl)
              clear hd
              obtain ⟨m0, m1, q3, q4, cx, cv, cl, cm⟩ := HTC.out W (hk.elim fun k h => h.turned)
              clear hk
              simp only [fillA, fillL, dstL, List.take_succ_cons, List.take_zero, List.filterMap_cons, List.filterMap_nil, List.contains_cons, List.contains_nil, Nat.reduceAdd, Nat.zero_add, Nat.reduceBEq, Bool.or_false, Bool.or_true, Bool.false_eq_true, ↓reduceIte]
              rw [e96]
              go_wp2_with fail
              exact ⟨by trivial, World.grownBy.refl _ _, rfl⟩
            · refine bifF rfl (FreeStep.mk rfl fun vs W hk hd => ?_)
              clear hd
              obtain ⟨m0, m1, q3, q4, cx, cv, cl, cm⟩ := HTC.out W (hk.elim fun k h => h.turned)
              clear hk
              simp only [fillA, fillL, dstL, List.take_succ_cons, List.take_zero, List.filterMap_cons, List.filterMap_nil, List.contains_cons, List.contains_nil, Nat.reduceAdd, Nat.zero_add, Nat.reduceBEq, Bool.or_false, Bool.or_true, Bool.false_eq_true, ↓reduceIte]
              go_wp2_with fail
              exact ⟨by trivial, World.grownBy.refl _ _, rfl⟩
            · refine bifF rfl (FreeStep.mk rfl fun vs W hk hd => ?_)
              clear hd
              clear hk
              simp only [fillA, fillL, dstL, List.take_succ_cons, List.take_zero, List.filterMap_cons, List.filterMap_nil, List.contains_cons, List.contains_nil, Nat.reduceAdd, Nat.zero_add, Nat.reduceBEq, Bool.or_false, Bool.or_true, Bool.false_eq_true, ↓reduceIte]
              go_wp2_with fail
              exact ⟨by trivial, World.grownBy.refl _ _, rfl⟩
            · refine bifF rfl (FreeStep.mk rfl fun vs W hk hd => ?_)
              have e99 : vs 99 = (.pointer (some ⟨wb, 0, none⟩)) := hd 5 (by kernel_rfl)
              clear hd
              clear hk
              simp only [fillA, fillL, dstL, List.take_succ_cons, List.take_zero, List.filterMap_cons, List.filterMap_nil, List.contains_cons, List.contains_nil, Nat.reduceAdd, Nat.zero_add, Nat.reduceBEq, Bool.or_false, Bool.or_true, Bool.false_eq_true, ↓reduceIte]
              rw [e99]
              go_wp2_with fail
              exact ⟨by trivial, World.grownBy.refl _ _, rfl⟩
            · refine bifF rfl (FreeStep.mk rfl fun vs W hk hd => ?_)
              have e100 : vs 100 = (.pointer (some ⟨wb, 0, none⟩)) := hd 6 (by kernel_rfl)
              clear hd
              clear hk
              simp only [fillA, fillL, dstL, List.take_succ_cons, List.take_zero, List.filterMap_cons, List.filterMap_nil, List.contains_cons, List.contains_nil, Nat.reduceAdd, Nat.zero_add, Nat.reduceBEq, Bool.or_false, Bool.or_true, Bool.false_eq_true, ↓reduceIte]
              rw [e100]
              go_wp2_with fail
              exact ⟨by trivial, World.grownBy.refl _ _, rfl⟩
            · refine bifF rfl (FreeStep.mk rfl fun vs W hk hd => ?_)
              have e101 : vs 101 = (.pointer (some ⟨wb, 0, none⟩)) := hd 7 (by kernel_rfl)
              clear hd
              obtain ⟨m0, m1, q3, q4, cx, cv, cl, cm⟩ := HTC.out W (hk.elim fun k h => h.turned)
              clear hk
              simp only [fillA, fillL, dstL, List.take_succ_cons, List.take_zero, List.filterMap_cons, List.filterMap_nil, List.contains_cons, List.contains_nil, Nat.reduceAdd, Nat.zero_add, Nat.reduceBEq, Bool.or_false, Bool.or_true, Bool.false_eq_true, ↓reduceIte]
              rw [e101]
              go_wp2_with fail
              exact ⟨by trivial, World.grownBy.refl _ _, rfl⟩
            · refine bifF rfl (FreeStep.mk rfl fun vs W hk hd => ?_)
              clear hd
              obtain ⟨m0, m1, q3, q4, cx, cv, cl, cm⟩ := HTC.out W (hk.elim fun k h => h.turned)
              clear hk
              simp only [fillA, fillL, dstL, List.take_succ_cons, List.take_zero, List.filterMap_cons, List.filterMap_nil, List.contains_cons, List.contains_nil, Nat.reduceAdd, Nat.zero_add, Nat.reduceBEq, Bool.or_false, Bool.or_true, Bool.false_eq_true, ↓reduceIte]
              go_wp2_with fail
              exact ⟨by trivial, World.grownBy.refl _ _, rfl⟩
            · refine bifF rfl (FreeStep.mk rfl fun vs W hk hd => ?_)
              clear hd
              clear hk
              simp only [fillA, fillL, dstL, List.take_succ_cons, List.take_zero, List.filterMap_cons, List.filterMap_nil, List.contains_cons, List.contains_nil, Nat.reduceAdd, Nat.zero_add, Nat.reduceBEq, Bool.or_false, Bool.or_true, Bool.false_eq_true, ↓reduceIte]
              go_wp2_with fail
              exact ⟨by trivial, World.grownBy.refl _ _, rfl⟩
            · refine bifF rfl (FreeStep.mk rfl fun vs W hk hd => ?_)
              clear hd
              clear hk
              simp only [fillA, fillL, dstL, List.take_succ_cons, List.take_zero, List.filterMap_cons, List.filterMap_nil, List.contains_cons, List.contains_nil, Nat.reduceAdd, Nat.zero_add, Nat.reduceBEq, Bool.or_false, Bool.or_true, Bool.false_eq_true, ↓reduceIte]
              go_wp2_with fail
              exact ⟨by trivial, World.grownBy.refl _ _, rfl⟩
            · refine bifF rfl (FreeStep.mk rfl fun vs W hk hd => ?_)
              clear hd
              clear hk
              simp only [fillA, fillL, dstL, List.take_succ_cons, List.take_zero, List.filterMap_cons, List.filterMap_nil, List.contains_cons, List.contains_nil, Nat.reduceAdd, Nat.zero_add, Nat.reduceBEq, Bool.or_false, Bool.or_true, Bool.false_eq_true, ↓reduceIte]
              go_wp2_with fail
              exact ⟨by trivial, World.grownBy.refl _ _, rfl⟩
            · refine bifF rfl (FreeStep.mk rfl fun vs W hk hd => ?_)
              have e105 : vs 105 = (.pointer (some ⟨bs, 0, none⟩)) := hd 11 (by kernel_rfl)
              have e106 : vs 106 = vl := hd 12 (by kernel_rfl)
              clear hd
              obtain ⟨m0, m1, q3, q4, cx, cv, cl, cm⟩ := HTC.out W (hk.elim fun k h => h.turned)
              clear hk
              simp only [fillA, fillL, dstL, List.take_succ_cons, List.take_zero, List.filterMap_cons, List.filterMap_nil, List.contains_cons, List.contains_nil, Nat.reduceAdd, Nat.zero_add, Nat.reduceBEq, Bool.or_false, Bool.or_true, Bool.false_eq_true, ↓reduceIte]
              rw [e105, e106]
              go_wp2_with (go_at_call 71; refine (hashG_any (HS.out.ext cx) _ ls cv HLS.out).mono ?_; rintro e w3 ⟨v3, rfl, hx3, hi3, hn3⟩)
              exact ⟨by trivial, hx3.grownBy none, hi3, fun q hq => by have := hn3 q hq; omega⟩
            · refine bifF rfl (FreeStep.mk rfl fun vs W hk hd => ?_)
              have h107 : Ints W (vs 107) (hashP p k ls) ∧ ∀ q, (vs 107).ownBlock = some q → q ≠ lb ∧ q ≠ mb := hd 13 (by kernel_rfl)
              clear hd
              clear hk
              simp only [fillA, fillL, dstL, List.take_succ_cons, List.take_zero, List.filterMap_cons, List.filterMap_nil, List.contains_cons, List.contains_nil, Nat.reduceAdd, Nat.zero_add, Nat.reduceBEq, Bool.or_false, Bool.or_true, Bool.false_eq_true, ↓reduceIte]
              obtain ⟨h107, hne107⟩ := h107
              obtain ⟨aq, af, ac, ae, acl⟩ := arr_of h107 (by rw [hashP_length]; omega)
              rw [ae] at hne107
              rw [ae, hashP_length]
              have har := run_arr4 aq af ac W
              go_wp2_with fail
              exact ⟨by trivial, World.grownBy.refl _ _, ⟨aq, af, rfl, hne107 aq (by rfl), acl⟩⟩
            · refine bifF rfl (FreeStep.mk rfl fun vs W hk hd => ?_)
              have h108 : ∃ q off, vs 108 = .pointer (some ⟨q, off, none⟩) ∧ (q ≠ lb ∧ q ≠ mb) ∧ ∀ i, i < (hashP p k ls).length → W.cell? ⟨q, off + i, none⟩ = some (.int .i64 (nth (hashP p k ls) i)) := hd 14 (by kernel_rfl)
              clear hd
              clear hk
              simp only [fillA, fillL, dstL, List.take_succ_cons, List.take_zero, List.filterMap_cons, List.filterMap_nil, List.contains_cons, List.contains_nil, Nat.reduceAdd, Nat.zero_add, Nat.reduceBEq, Bool.or_false, Bool.or_true, Bool.false_eq_true, ↓reduceIte]
              obtain ⟨aq, af, ae, -, acl⟩ := h108
              have ac0 := acl 0 (by rw [hashP_length]; omega)
              have ac1 := acl 1 (by rw [hashP_length]; omega)
              have ac2 := acl 2 (by rw [hashP_length]; omega)
              have ac3 := acl 3 (by rw [hashP_length]; omega)
              rw [HY0.out] at ac0
              rw [HY1.out] at ac1
              rw [HY2.out] at ac2
              rw [HY3.out] at ac3
              rw [Nat.add_zero] at ac0
              rw [ae]
              clear acl
              go_wp2_with fail
              exact ⟨by trivial, World.grownBy.refl _ _, rfl⟩
            · refine bifT rfl (LinkStep.mk rfl fun vs W hS hd => ?_)
              replace hS : PutSta wE mb lb NQ D6 LV (a : Int) b vl (hashP p k ls) 0 vs W := hS
              have e97 : vs 97 = (.map (some lb)) := hd 3 (by kernel_rfl)
              have e98 : vs 98 = (.agg #[.int .i64 (a : Int), .int .i64 b]) := hd 4 (by kernel_rfl)
              clear hd
              obtain ⟨z, st, W1, r1, g1, f1⟩ := PutSta.s0 HNN.out HNE.out HWF.out.1 HWF.out.2 hS
              simp only [fillA, fillL, dstL, List.take_succ_cons, List.take_zero, List.filterMap_cons, List.filterMap_nil, List.contains_cons, List.contains_nil, Nat.reduceAdd, Nat.zero_add, Nat.reduceBEq, Bool.or_false, Bool.or_true, Bool.false_eq_true, ↓reduceIte]
              rw [e97, e98]
              go_wp2_with fail
              exact ⟨by trivial, g1, f1 _ rfl, trivial⟩
            · refine bifT rfl (LinkStep.mk rfl fun vs W hS hd => ?_)
              replace hS : PutSta wE mb lb NQ D6 LV (a : Int) b vl (hashP p k ls) 1 vs W := hS
              clear hd
              obtain ⟨hT, ⟨z, st, hv, he⟩, hm⟩ := hS
              simp only [fillA, fillL, dstL, List.take_succ_cons, List.take_zero, List.filterMap_cons, List.filterMap_nil, List.contains_cons, List.contains_nil, Nat.reduceAdd, Nat.zero_add, Nat.reduceBEq, Bool.or_false, Bool.or_true, Bool.false_eq_true, ↓reduceIte]
              rw [hv]
              go_wp2_with fail
              exact ⟨by trivial, World.grownBy.refl _ _, ⟨hT, ⟨st, rfl, he⟩, hm⟩, trivial⟩
            · refine bifT rfl (LinkStep.mk rfl fun vs W hS hd => ?_)
              replace hS : PutSta wE mb lb NQ D6 LV (a : Int) b vl (hashP p k ls) 2 vs W := hS
              have e97 : vs 97 = (.map (some lb)) := hd 3 (by kernel_rfl)
              have e104 : vs 104 = vl := hd 10 (by kernel_rfl)
              clear hd
              obtain ⟨st, W1, hv, r1, g1, f1⟩ := PutSta.s2 HNN.out hS
              simp only [fillA, fillL, dstL, List.take_succ_cons, List.take_zero, List.filterMap_cons, List.filterMap_nil, List.contains_cons, List.contains_nil, Nat.reduceAdd, Nat.zero_add, Nat.reduceBEq, Bool.or_false, Bool.or_true, Bool.false_eq_true, ↓reduceIte]
              rw [e97, hv, e104]
              go_wp2_with fail
              exact ⟨by trivial, g1, f1 _, trivial⟩
            · refine bifT rfl (LinkStep.mk rfl fun vs W hS hd => ?_)
              replace hS : PutSta wE mb lb NQ D6 LV (a : Int) b vl (hashP p k ls) 3 vs W := hS
              have e102 : vs 102 = (.map (some mb)) := hd 8 (by kernel_rfl)
              have e103 : vs 103 = (.agg #[.int .i64 (a : Int), .int .i64 b]) := hd 9 (by kernel_rfl)
              clear hd
              obtain ⟨z, st, W1, r1, g1, f1⟩ := PutSta.s3 HNN.out HNE.out HWF.out.1 HWF.out.2 hS
              simp only [fillA, fillL, dstL, List.take_succ_cons, List.take_zero, List.filterMap_cons, List.filterMap_nil, List.contains_cons, List.contains_nil, Nat.reduceAdd, Nat.zero_add, Nat.reduceBEq, Bool.or_false, Bool.or_true, Bool.false_eq_true, ↓reduceIte]
              rw [e102, e103]
              go_wp2_with fail
              exact ⟨by trivial, g1, f1 _ rfl, trivial⟩
            · refine bifT rfl (LinkStep.mk rfl fun vs W hS hd => ?_)
              replace hS : PutSta wE mb lb NQ D6 LV (a : Int) b vl (hashP p k ls) 4 vs W := hS
              clear hd
              obtain ⟨hT, hm, ⟨z, st, hv, he⟩⟩ := hS
              simp only [fillA, fillL, dstL, List.take_succ_cons, List.take_zero, List.filterMap_cons, List.filterMap_nil, List.contains_cons, List.contains_nil, Nat.reduceAdd, Nat.zero_add, Nat.reduceBEq, Bool.or_false, Bool.or_true, Bool.false_eq_true, ↓reduceIte]
              rw [hv]
              go_wp2_with fail
              exact ⟨by trivial, World.grownBy.refl _ _, ⟨hT, hm, ⟨st, rfl, he⟩⟩, trivial⟩
            · refine bifT rfl (LinkStep.mk rfl fun vs W hS hd => ?_)
              replace hS : PutSta wE mb lb NQ D6 LV (a : Int) b vl (hashP p k ls) 5 vs W := hS
              have e102 : vs 102 = (.map (some mb)) := hd 8 (by kernel_rfl)
              have e109 : vs 109 = (.agg #[.int .i64 y0, .int .i64 y1, .int .i64 y2, .int .i64 y3]) := hd 15 (by kernel_rfl)
              clear hd
              obtain ⟨st, W1, hv, r1, g1, f1⟩ := PutSta.s5 HNN.out hS
              rw [digV_four (hashP_length _ _ _), HY0.out, HY1.out, HY2.out, HY3.out] at r1
              simp only [fillA, fillL, dstL, List.take_succ_cons, List.take_zero, List.filterMap_cons, List.filterMap_nil, List.contains_cons, List.contains_nil, Nat.reduceAdd, Nat.zero_add, Nat.reduceBEq, Bool.or_false, Bool.or_true, Bool.false_eq_true, ↓reduceIte]
              rw [e102, hv, e109]
              go_wp2_with fail
              exact ⟨by trivial, g1, f1 _, trivial⟩
          · intro vs w5 hall hS
            replace hS : PutSta wE mb lb NQ D6 LV (a : Int) b vl (hashP p k ls) 6 vs w5 := hS
            have HT := Lib.hid hS.turned; have HWAY5 := Lib.hid (HWE.out.done HLV.out.2 HVL.out hS)
            clear hall hS
            simp only [fillA, fillL, dstL, List.take_succ_cons, List.take_zero, List.filterMap_cons, List.filterMap_nil, List.contains_cons, List.contains_nil, Nat.reduceAdd, Nat.zero_add, Nat.reduceBEq, Bool.or_false, Bool.or_true, Bool.false_eq_true, ↓reduceIte]
            go_wp2_with fail
            go_ret
            refine ⟨_, _, _, _, rfl, by rw [HHID.out]; exact HN6.out, (Turned.of_ext HXT4.out).trans (HT6.out.trans ((Turned.of_ext HX68.out).trans HT.out)), HWAY5.out.mono (by have := HNQ.out; have := HLB.out; omega), ?_, fun x y hxy hn => ⟨by rw [updP_other _ _ (fun h => hn (by have := HBE.out; omega))]; exact HFD.out x y hxy hn, by rw [updP_other _ _ (fun h => hn (by have := HBE.out; omega))]; exact HFL.out x y hxy hn⟩⟩
            simp only [Wkd]
            rw [if_pos HSHE.out, if_neg HN1.out, HME.out, HBE.out, updP_same, updP_same]
            exact ⟨x, _, y, _, HXC.out, HYC.out, HKA.out.congr HLB.out.1 (fun u v h1 h2 h3 => updP_other _ _ (fun h => by have := HBE.out; have := HLB.out; omega)) (fun u v h1 h2 h3 => updP_other _ _ (fun h => by have := HBE.out; have := HLB.out; omega)), HKB.out.congr (by have := HLB.out; omega) (fun u v h1 h2 h3 => updP_other _ _ (fun h => by have := HLB.out; omega)) (fun u v h1 h2 h3 => updP_other _ _ (fun h => by have := HLB.out; omega)), by rw [HLSE.out], by rw [HLSE.out]⟩
end
end Go.Proofs.YtfepefbehgbjpaaGreatDoor
