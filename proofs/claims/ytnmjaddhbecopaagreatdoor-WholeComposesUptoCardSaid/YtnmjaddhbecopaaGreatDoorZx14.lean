/- Vouchers, the document's side: rows that fit; what they are made over: contracts. Vouchers, the document's side: what they are made over; columns: contracts. Vouchers, the document's side: what a rule says, divided; the product; what all rules come to at a point: contracts. -/
import Derived.Test.YtnmjaddhbecopaaGreatDoorWw
import Derived.Test.YtnmjaddhbecopaaGreatDoorWo
import Derived.Test.YtnmjaddhbecopaaGreatDoorGr
import Derived.Test.YtnmjaddhbecopaaGreatDoorZx13
import Derived.Test.YtnmjaddhbecopaaGreatDoorKh
import Derived.Test.YtnmjaddhbecopaaGreatDoorKk
section
namespace Go.Att
/-- Is a number one of the first powers of 2 from 4 on? -/
def fourUp (k : Nat) (n : Int) : Bool := (List.range k).any fun j => (2 : Int) ^ (j + 2) == n
theorem fourUp_succ (k : Nat) (n : Int) : fourUp (k + 1) n = (fourUp k n || (2 : Int) ^ (k + 2) == n) := by simp [fourUp, List.range_succ]
theorem pow8 {k : Nat} (h : k < 8) : (4 : Int) ≤ 2 ^ (k + 2) ∧ (2 : Int) ^ (k + 2) ≤ 512 := by
  have h1 : (2 : Nat) ^ (k + 2) ≤ 2 ^ 9 := Nat.pow_le_pow_right (by decide) (by omega)
  have h2 : (2 : Nat) ^ 2 ≤ 2 ^ (k + 2) := Nat.pow_le_pow_right (by decide) (by omega)
  have : ((2 : Nat) ^ (k + 2) : Nat) = (2 : Int) ^ (k + 2) := by norm_cast
  omega
theorem fourUp_eq (n : Int) : fourUp 8 n = (twoB n && decide (4 ≤ n) && decide (n ≤ 512)) := by
  rw [Bool.eq_iff_iff]
  simp only [fourUp, twoB, twoUp, Bool.and_eq_true, List.any_eq_true, List.mem_range, beq_iff_eq, decide_eq_true_eq]
  constructor
  · rintro ⟨k, hk, rfl⟩
    have := pow8 hk
    exact ⟨⟨⟨k + 2, by omega, rfl⟩, this.1⟩, this.2⟩
  · rintro ⟨⟨⟨k, hk, rfl⟩, h1⟩, h2⟩
    have e : ((2 ^ k : Nat) : Int) = (2 : Int) ^ k := by norm_cast
    have l1 : 2 ≤ k := by
      apply Classical.byContradiction
      intro hc
      have : 2 ^ k ≤ 2 ^ 1 := Nat.pow_le_pow_right (by decide) (by omega)
      omega
    have l2 : k ≤ 9 := by
      apply Classical.byContradiction
      intro hc
      have : 2 ^ 10 ≤ 2 ^ k := Nat.pow_le_pow_right (by decide) (by omega)
      omega
    exact ⟨k - 2, by omega, by rw [Nat.sub_add_cancel l1]⟩
theorem rowsB_eq (p n : Int) (l : Nat) : rowsB p n l = (fourUp 8 n && decide ((p - 1) % (8 * n) = 0) && decide (8 * n < p - 1) && decide (0 < l) && decide (l ≤ 64) && decide ((l : Int) ≤ p)) := by
  rw [fourUp_eq]; rfl
end Go.Att
namespace Go.Proofs.YtnmjaddhbecopaaGreatDoor
open Go.RowKit Go.Att
set_option maxRecDepth 100000 in
set_option maxHeartbeats 4000000 in
theorem dfits_any (p sz n : Int) (lv : Value) (cd : List In4) (w : World) (hc : Inqs w lv cd) (hp : 3 ≤ p) (hp2 : p ≤ 2147483647) :
    Calls Tryz.prog 77 #[.int .i64 p, .agg #[.int .i64 sz, lv], .int .i64 n] w fun e w' => e = .returned (.bool (rowsB p n cd.length)) ∧ Ext w w' := by
  have hll := hc.run_len (P := Tryz.prog) slIns
  obtain ⟨al, cl, rfl⟩ := hc.shape
  rw [rowsB_eq]
  have HX := Lib.hid (Ext.alloc w (Obj.cells #[.int .i64 sz, .slice al cd.length cl] 48))
  have HBK := Lib.hid (BlkOf.new w [.int .i64 sz, .slice al cd.length cl] 48)
  have hlb := hc.len
  clear hc
  go_enter Tryz.func77, Tryz.ntmps77
  go_wp2_with fail
  have b1 : (w.alloc (Obj.cells #[.int .i64 sz, .slice al cd.length cl] 48)).cell? ⟨w.heap.size, 1, none⟩ = some (.slice al cd.length cl) := HBK.out.cell 1
  clear HBK
  generalize hq : w.heap.size = q at *
  generalize w.alloc (Obj.cells #[.int .i64 sz, .slice al cd.length cl] 48) = W at *
  clear hq
  go_loopw [7, 8] (fun x7 x8 wr => ∃ k : Nat, k ≤ 8 ∧ x7 = .bool (fourUp k n) ∧ x8 = .int .i64 ((2 : Int) ^ (k + 2)) ∧ wr = W) (fun _ x8 _ => (1024 - intOf x8).toNat)
  case atStart => exact ⟨0, by omega, rfl, rfl, rfl⟩
  case round =>
    obtain ⟨k, hk, rfl, rfl, rfl⟩ := hrel
    by_cases hk2 : k < 8
    · have hb := pow8 hk2
      have HS := Lib.hid (fourUp_succ k n)
      have HP := Lib.hid (show (2 : Int) ^ (k + 1 + 2) = 2 ^ (k + 2) * 2 from Int.pow_succ _ _)
      generalize (2 : Int) ^ (k + 2) = M at *
      generalize fourUp k n = B at *
      cases B
      · go_wp2_with fail
        go_roundw
        case rel => exact ⟨k + 1, by omega, by rw [HS.out, Bool.false_or], by rw [HP.out], trivial⟩
        case measure => simp [intOf]; omega
      · go_wp2_with fail
        go_roundw
        case rel => exact ⟨k + 1, by omega, by rw [HS.out, Bool.true_or], by rw [HP.out], trivial⟩
        case measure => simp [intOf]; omega
    · obtain rfl : k = 8 := by omega
      have e : (2 : Int) ^ (8 + 2) = 1024 := by decide
      rw [e]
      have HFE := Lib.hid (fourUp_eq n)
      by_cases h2 : fourUp 8 n = true
      · have hbd : 4 ≤ n ∧ n ≤ 512 := by
          have := HFE.out; rw [h2] at this
          simp only [Bool.true_eq, Bool.and_eq_true, decide_eq_true_eq] at this
          exact ⟨this.1.2, this.2⟩
        rw [h2]
        by_cases h3 : (p - 1) % (8 * n) = 0
        · have h3b : ((p - 1) % (8 * n) == 0) = true := by rw [beq_iff_eq]; exact h3
          by_cases h4 : 8 * n < p - 1
          · by_cases h5 : 0 < cd.length
            · by_cases h6 : cd.length ≤ 64
              · have HV := Lib.hid (show (fourUp 8 n && decide ((p - 1) % (8 * n) = 0) && decide (8 * n < p - 1) && decide (0 < cd.length) && decide (cd.length ≤ 64) && decide ((cd.length : Int) ≤ p)) = decide ((cd.length : Int) ≤ p) by simp [h2, h3, h4, h5, h6])
                clear h2 h3
                go_wp2_with fail
                go_ret
                exact ⟨ret_bool (by first | rfl | exact HV.out.symm), HX.out⟩
              · have HV := Lib.hid (show (fourUp 8 n && decide ((p - 1) % (8 * n) = 0) && decide (8 * n < p - 1) && decide (0 < cd.length) && decide (cd.length ≤ 64) && decide ((cd.length : Int) ≤ p)) = false by simp [h6])
                clear h2 h3
                go_wp2_with fail
                go_ret
                exact ⟨ret_bool (by first | rfl | exact HV.out.symm), HX.out⟩
            · have HV := Lib.hid (show (fourUp 8 n && decide ((p - 1) % (8 * n) = 0) && decide (8 * n < p - 1) && decide (0 < cd.length) && decide (cd.length ≤ 64) && decide ((cd.length : Int) ≤ p)) = false by simp [h5])
              clear h2 h3
              go_wp2_with fail
              go_ret
              exact ⟨ret_bool (by first | rfl | exact HV.out.symm), HX.out⟩
          · have HV := Lib.hid (show (fourUp 8 n && decide ((p - 1) % (8 * n) = 0) && decide (8 * n < p - 1) && decide (0 < cd.length) && decide (cd.length ≤ 64) && decide ((cd.length : Int) ≤ p)) = false by simp [h4])
            clear h2 h3
            go_wp2_with fail
            go_ret
            exact ⟨ret_bool (by first | rfl | exact HV.out.symm), HX.out⟩
        · have h3b : ((p - 1) % (8 * n) == 0) = false := by rw [beq_eq_false_iff_ne]; exact h3
          have HV := Lib.hid (show (fourUp 8 n && decide ((p - 1) % (8 * n) = 0) && decide (8 * n < p - 1) && decide (0 < cd.length) && decide (cd.length ≤ 64) && decide ((cd.length : Int) ≤ p)) = false by simp [h3])
          clear h2 h3
          go_wp2_with fail
          go_ret
          exact ⟨ret_bool (by first | rfl | exact HV.out.symm), HX.out⟩
      · have h2f : fourUp 8 n = false := by simpa using h2
        rw [h2f]
        have HV := Lib.hid (show (fourUp 8 n && decide ((p - 1) % (8 * n) = 0) && decide (8 * n < p - 1) && decide (0 < cd.length) && decide (cd.length ≤ 64) && decide ((cd.length : Int) ≤ p)) = false by simp [h2f])
        clear h2 h2f
        go_wp2_with fail
        go_ret
        exact ⟨ret_bool (by first | rfl | exact HV.out.symm), HX.out⟩
end Go.Proofs.YtnmjaddhbecopaaGreatDoor
end
section
namespace Go.Att
theorem blk_sl {w : World} {b n : Nat} {cs : List Value} {t : TypeId} (h : BlkOf w b cs t) (hl : cs.length = n) (hn : n ≤ maxLen) : Sl w 1 (.slice (some ⟨b, 0, none⟩) n n) n cs :=
  ⟨_, _, rfl, by omega, Nat.le_refl _, hn, fun i hi => ⟨b, 0, rfl, by rw [Nat.zero_add, h.cell i, List.getElem?_eq_getElem hi]⟩⟩
end Go.Att
namespace Go.Proofs.YtnmjaddhbecopaaGreatDoor
open Go.RowKit Go.Att
def tcells (p sz : Int) (lv : Value) (out n g x y a gg : Int) : List Value := [.int .i64 p, .int .i64 sz, lv, .int .i64 out, .int .i64 n, .int .i64 p, .int .i64 n, .int .i64 1, .int .i64 (froot p g n), .int .i64 p, .int .i64 (8 * n), .int .i64 g, .int .i64 (froot p g (8 * n)), .int .i64 x, .int .i64 y, .int .i64 a, .int .i64 gg]
/-- What a voucher is made over, in block b. -/
structure TAt (w : World) (b : Nat) (p sz out n g : Int) (cd : List In4) (lv : Value) (x y a gg : Int) : Prop where
  blk : BlkOf w b (tcells p sz lv out n g x y a gg) 57
  code : Inqs w lv cd
theorem TAt.ext {w w' : World} {b : Nat} {p sz out n g : Int} {cd : List In4} {lv : Value} {x y a gg : Int} (h : TAt w b p sz out n g cd lv x y a gg) (hx : Ext w w') : TAt w' b p sz out n g cd lv x y a gg := ⟨h.blk.ext hx, h.code.ext hx⟩
set_option maxRecDepth 100000 in
set_option maxHeartbeats 4000000 in
theorem dnew_any (p sz out n g : Int) (lv : Value) (cd : List In4) (w : World) (hc : Inqs w lv cd) {K : Nat} (hB : FitOk p n cd.length K) (hpr : Pr p) (hp2 : p ≤ 2147483647) (hg : IsGen p g) (hl : ∀ x : Int, 1 ≤ x → x < g → ¬ IsGen p x) (h1 : 1 ≤ g) (h2 : g < p) :
    Calls Tryz.prog 25 #[.int .i64 p, .agg #[.int .i64 sz, lv], .int .i64 out, .int .i64 n] w (Gives w fun v w' => ∃ b, v = .pointer (some ⟨b, 0, none⟩) ∧ TAt w' b p sz out n g cd lv 0 0 0 0 ∧ w.heap.size ≤ b) := by
  obtain ⟨al, cl, rfl⟩ := hc.shape
  have hbd := hB.bd
  have hp3 : 3 ≤ p := by have := hB.lt; omega
  have HP := Lib.hid hpr; have HG := Lib.hid hg; have HL := Lib.hid hl; have HC := Lib.hid hc; have HB := Lib.hid hB
  have HX := Lib.hid (Ext.alloc w (Obj.cells #[.int .i64 sz, .slice al cd.length cl] 48))
  have HBK := Lib.hid (BlkOf.new w [.int .i64 sz, .slice al cd.length cl] 48)
  have HF1 := Lib.hid (show fof p 1 = 1 by unfold fof; exact one_mod (by omega))
  have HFG := Lib.hid (show fof p g = g by unfold fof; exact Int.emod_eq_of_lt (by omega) h2)
  clear hc hB hpr hg hl
  go_enter Tryz.func25, Tryz.ntmps25
  go_wp2_with (go_at_call 78; refine (rgen_any _ g _ HP.out hp3 hp2 HG.out HL.out h1 h2).mono ?_; rintro e w2 ⟨rfl, rfl⟩)
  refine (r2new_any p g n 1 _ HP.out hp3 hp2 HG.out HL.out h1 h2 HB.out.dom1).mono ?_
  rintro e w1 ⟨v, rfl, hx1, rfl⟩
  have HX1 := Lib.hid (HX.out.trans hx1)
  have HBK1 := Lib.hid (HBK.out.ext hx1)
  rw [HF1.out]
  clear hx1 HX HBK
  generalize hq : w.heap.size = q at *
  have HQ := Lib.hid hq
  clear hq
  go_wp2_with fail
  have HXa := Lib.hid (HX1.out.trans (Ext.alloc w1 (Obj.cells #[.int .i64 p, .int .i64 n, .int .i64 1, .int .i64 (froot p g n)] 39)))
  have HBa := Lib.hid (HBK1.out.ext (Ext.alloc w1 (Obj.cells #[.int .i64 p, .int .i64 n, .int .i64 1, .int .i64 (froot p g n)] 39)))
  have HDa := Lib.hid (BlkOf.new w1 [.int .i64 p, .int .i64 n, .int .i64 1, .int .i64 (froot p g n)] 39)
  generalize hqa : w1.heap.size = qa at *
  generalize w1.alloc (Obj.cells #[.int .i64 p, .int .i64 n, .int .i64 1, .int .i64 (froot p g n)] 39) = W1 at *
  clear HX1 HBK1 hqa
  refine (r2new_any p g (8 * n) g _ HP.out hp3 hp2 HG.out HL.out h1 h2 (HB.out.dom8 h1 h2)).mono ?_
  rintro e w2 ⟨v, rfl, hx2, rfl⟩
  rw [HFG.out]
  have HXb := Lib.hid ((HXa.out.trans hx2).trans (Ext.alloc w2 (Obj.cells #[.int .i64 p, .int .i64 (8 * n), .int .i64 g, .int .i64 (froot p g (8 * n))] 39)))
  have HBb := Lib.hid ((HBa.out.ext hx2).ext (Ext.alloc w2 (Obj.cells #[.int .i64 p, .int .i64 (8 * n), .int .i64 g, .int .i64 (froot p g (8 * n))] 39)))
  have HDb := Lib.hid ((HDa.out.ext hx2).ext (Ext.alloc w2 (Obj.cells #[.int .i64 p, .int .i64 (8 * n), .int .i64 g, .int .i64 (froot p g (8 * n))] 39)))
  have HEb := Lib.hid (BlkOf.new w2 [.int .i64 p, .int .i64 (8 * n), .int .i64 g, .int .i64 (froot p g (8 * n))] 39)
  have b0 : (w2.alloc (Obj.cells #[.int .i64 p, .int .i64 (8 * n), .int .i64 g, .int .i64 (froot p g (8 * n))] 39)).cell? ⟨q, 0, none⟩ = some (.int .i64 sz) := HBb.out.cell 0
  have b1 : (w2.alloc (Obj.cells #[.int .i64 p, .int .i64 (8 * n), .int .i64 g, .int .i64 (froot p g (8 * n))] 39)).cell? ⟨q, 1, none⟩ = some (.slice al cd.length cl) := HBb.out.cell 1
  have d0 : (w2.alloc (Obj.cells #[.int .i64 p, .int .i64 (8 * n), .int .i64 g, .int .i64 (froot p g (8 * n))] 39)).cell? ⟨qa, 0, none⟩ = some (.int .i64 p) := HDb.out.cell 0
  have d1 : (w2.alloc (Obj.cells #[.int .i64 p, .int .i64 (8 * n), .int .i64 g, .int .i64 (froot p g (8 * n))] 39)).cell? ⟨qa, 1, none⟩ = some (.int .i64 n) := HDb.out.cell 1
  have d2 : (w2.alloc (Obj.cells #[.int .i64 p, .int .i64 (8 * n), .int .i64 g, .int .i64 (froot p g (8 * n))] 39)).cell? ⟨qa, 2, none⟩ = some (.int .i64 1) := HDb.out.cell 2
  have d3 : (w2.alloc (Obj.cells #[.int .i64 p, .int .i64 (8 * n), .int .i64 g, .int .i64 (froot p g (8 * n))] 39)).cell? ⟨qa, 3, none⟩ = some (.int .i64 (froot p g n)) := HDb.out.cell 3
  clear hx2 HXa HBa HDa
  go_wp2_with fail
  go_ret
  have hs2 : (w2.alloc (Obj.cells #[.int .i64 p, .int .i64 (8 * n), .int .i64 g, .int .i64 (froot p g (8 * n))] 39)).heap.size = w2.heap.size + 1 := by simp
  have hb2 := BlkOf.new (w2.alloc (Obj.cells #[.int .i64 p, .int .i64 (8 * n), .int .i64 g, .int .i64 (froot p g (8 * n))] 39)) (tcells p sz (.slice al cd.length cl) out n g 0 0 0 0) 57
  have hz2 := HXb.out.size
  rw [hs2] at hb2 hz2
  exact .mk _ rfl (HXb.out.trans (Ext.alloc _ _)) ⟨_, rfl, ⟨hb2, HC.out.ext (HXb.out.trans (Ext.alloc _ _))⟩, hz2⟩
/-- A list as rows of one element. -/
def oneL (l : List Int) : List (List Int) := l.map fun x => [x]
theorem oneL_length (l : List Int) : (oneL l).length = l.length := by simp [oneL]
theorem colL_one (l : List Int) : colL (oneL l) 0 = l := by
  unfold colL oneL
  rw [List.map_map]
  exact (List.map_congr_left fun x _ => rfl).trans (List.map_id l)
section
variable {w : World} {b : Nat} {p sz out n g : Int} {cd : List In4} {lv : Value} {x y a gg : Int} {K : Nat}
set_option maxRecDepth 100000 in
set_option maxHeartbeats 4000000 in
theorem dcolumn_any (h : TAt w b p sz out n g cd lv x y a gg) (hB : FitOk p n cd.length K) (hp2 : p ≤ 2147483647) (hg1 : 1 ≤ g) (hg2 : g < p) {v : Value} {L : List (List Int)} (hv : Rws w v L) (hL : L.length = 2 ^ K) (k : Nat) (hk : ∀ i, i < L.length → k < (nthL L i).length) (_hk2 : k ≤ 1048576) :
    Calls Tryz.prog 28 #[.pointer (some ⟨b, 0, none⟩), v, .int .i64 k] w (Gives w fun u w' => Ints w' u (wideL p g n K (colL L k)) ∧ NewIn w u) := by
  obtain ⟨R, hv⟩ := hv
  have hbd := hB.bd
  have hp : 2 ≤ p := by have := hB.lt; omega
  have hLn : 4 ≤ L.length ∧ L.length ≤ 512 := by have := hB.nat; omega
  have hll := hv.run_len (P := Tryz.prog) slRowsK
  have HV := Lib.hid hv; have HK := Lib.hid hk; have HB := Lib.hid hB; have HL := Lib.hid hL
  have HT := Lib.hid h
  clear hv hk hB hL h
  go_enter Tryz.func28, Tryz.ntmps28
  go_wp2_with fail
  go_loopw [7, 8] (fun x7 x8 wr => ∃ i : Nat, i ≤ L.length ∧ x8 = .int .i64 i ∧ wr.ownsRow w.heap.size 3 1 x7 i (((colL L k).take i).map (Value.int .i64)) ∧ Ext w wr) (fun _ x8 _ => L.length - (intOf x8).toNat)
  case atStart => exact ⟨0, by omega, rfl, World.ownsRow_nil _ _ _ _, Ext.refl _⟩
  case round =>
    obtain ⟨i, hi, rfl, HO, HX⟩ := hrel
    by_cases hil : i < L.length
    · have hix := HV.out.run_index (P := Tryz.prog) slRowsK i hil
      have hci := (HV.out.ext HX).cell i hil
      have hiy := (HV.out.row i hil).run_index (P := Tryz.prog) slInts k (HK.out i hil)
      have hcy := ((HV.out.row i hil).ext HX).cell k (HK.out i hil)
      have ST := Lib.hid (colL_snoc (k := k) hil)
      go_wp2_with (at_builtin; refine wpList_app1 rfl _ _ 23 rfl slInts rfl HX HO rfl _ rfl rfl (by omega) (by omega) ?_; intro v2 w2 HO2 HX2 _)
      go_roundw
      case rel => exact ⟨i + 1, by omega, by go_num, by rw [ST.out]; exact HO2, HX2⟩
      case measure => simp [intOf]; omega
    · obtain rfl : i = L.length := by omega
      rw [List.take_of_length_le (by rw [colL_length]; exact Nat.le_refl _)] at HO
      have HI := Lib.hid (Ints.of_own HO)
      have hb := HT.out.blk.ext HX
      have t5 : wr.cell? ⟨b, 5, none⟩ = some (.int .i64 p) := hb.cell 5
      have t6 : wr.cell? ⟨b, 6, none⟩ = some (.int .i64 n) := hb.cell 6
      have t7 : wr.cell? ⟨b, 7, none⟩ = some (.int .i64 1) := hb.cell 7
      have t8 : wr.cell? ⟨b, 8, none⟩ = some (.int .i64 (froot p g n)) := hb.cell 8
      have HCL := Lib.hid (colL_length L k)
      clear HO hb
      go_wp2_with fail
      refine (rcoef_any p n 1 (froot p g n) _ (colL L k) _ hp hp2 (2 ^ K) HB.out.nat (by
        have : 2 ^ K ≤ 2 ^ 16 := Nat.pow_le_pow_right (by decide) (by have := HB.out.hi; omega)
        omega) HI.out (by rw [HCL.out]; exact HL.out)).mono ?_
      rintro e w3 ⟨v3, rfl, hx3, hI3⟩
      have hb := HT.out.blk.ext (HX.trans hx3)
      have t9 : w3.cell? ⟨b, 9, none⟩ = some (.int .i64 p) := hb.cell 9
      have t10 : w3.cell? ⟨b, 10, none⟩ = some (.int .i64 (8 * n)) := hb.cell 10
      have t11 : w3.cell? ⟨b, 11, none⟩ = some (.int .i64 g) := hb.cell 11
      have t12 : w3.cell? ⟨b, 12, none⟩ = some (.int .i64 (froot p g (8 * n))) := hb.cell 12
      have HX3 := Lib.hid (HX.trans hx3); have HI3 := Lib.hid hI3
      clear t5 t6 t7 t8 hb hx3 hI3 HX HI
      go_wp2_with fail
      refine (rvals_any p (8 * n) g (froot p g (8 * n)) _ _ _ hp hp2 (by omega) (by omega) ⟨by omega, hg2⟩ HI3.out).mono ?_
      rintro e w4 ⟨v4, rfl, hx4, hI4, hN4⟩
      have HX4 := Lib.hid (HX3.out.trans hx4); have HI4 := Lib.hid hI4; have HN4 := Lib.hid (hN4.mono HX3.out.size)
      have h8 : (8 * n).toNat = 2 ^ (K + 3) := by have := HB.out.nat; rw [Nat.pow_add]; omega
      have HWE := Lib.hid (show valsL p g (froot p g (8 * n)) (8 * n).toNat (trimL p ((List.range (2 ^ K)).map (cofF p (froot p g n) (2 ^ K) n 1 (colL L k)))) = wideL p g n K (colL L k) by rw [h8]; rfl)
      clear hx4 hI4 hN4 h8
      go_wp2_with fail
      go_ret
      exact .mk _ rfl HX4.out ⟨by rw [← HWE.out]; exact HI4.out, HN4.out⟩
set_option maxRecDepth 100000 in
set_option maxHeartbeats 4000000 in
theorem done_any {w : World} {v : Value} {l : List Int} (hv : Ints w v l) (hl : l.length ≤ 1048576) : Calls Tryz.prog 27 #[v] w (Gives w fun u w' => Rws w' u (oneL l)) := by
  have hll := hv.run_len (P := Tryz.prog) slInts
  have HV := Lib.hid hv
  clear hv
  go_enter Tryz.func27, Tryz.ntmps27
  go_wp2_with fail
  go_loopw [3, 4] (fun x3 x4 wr => ∃ (i : Nat) (E : Nat → List Value), i ≤ l.length ∧ x4 = .int .i64 i ∧ Hid (Lst rgInts w.heap.size wr 23 1 x3 (oneL (l.take i)) E) ∧ Hid (Ext w wr)) (fun _ x4 _ => l.length - (intOf x4).toNat)
  case atStart => exact ⟨0, fun _ => [], Nat.zero_le _, rfl, Lib.hid (Lst.nil _ _ _ _ (World.ownsRow_nil _ _ _ _)), Lib.hid (Ext.refl _)⟩
  case round =>
    obtain ⟨i, E, hi, rfl, HLI, HX⟩ := hrel
    by_cases hil : i < l.length
    · have hix := HV.out.run_index (P := Tryz.prog) slInts i hil
      have hc := (HV.out.ext HX.out).cell i hil
      have HTK := Lib.hid (show oneL (l.take (i + 1)) = oneL (l.take i) ++ [[nth l i]] by rw [List.take_succ_eq_append_getElem hil, ← nth_eq hil]; simp [oneL])
      have HTL := Lib.hid (show (oneL (l.take i)).length = i by rw [oneL_length, List.length_take]; omega)
      have HW1 := Lib.hid (BlkOf.new wr [.int .i64 (nth l i)] 3)
      have HX1 := Lib.hid (Ext.alloc wr (Obj.cells #[.int .i64 (nth l i)] 3))
      generalize nth l i = z at *
      have hsz : w.heap.size ≤ (wr.alloc (Obj.cells #[.int .i64 z] 3)).heap.size := Nat.le_trans HX.out.size HX1.out.size
      have HO := own_ext HLI.out.own HX1.out
      rw [HTL.out] at HO
      have hs1 : (wr.alloc (Obj.cells #[.int .i64 z] 3)).heap.size = wr.heap.size + 1 := by simp
      go_wp2_with (at_builtin; refine wpList_appNw rfl _ _ 22 rfl slRowsK rfl hsz HO rfl #[.slice (some ⟨wr.heap.size, 0, none⟩) 1 1] rfl (by intro u hu; simp at hu; subst hu; rfl) (by rw [hs1]; rfl) (by omega) (by omega) ?_; intro v4 w4 HO4 HG4 HM4)
      go_roundw
      case rel =>
        have HS : rgInts.sat wr.heap.size (wr.alloc (Obj.cells #[.int .i64 z] 3)).heap.size (wr.alloc (Obj.cells #[.int .i64 z] 3)) [z] [.slice (some ⟨wr.heap.size, 0, none⟩) 1 1] := ⟨_, rfl, blk_sl HW1.out (by simp) (by decide), fun k hk => by
          simp [Value.ownBlock] at hk
          subst hk
          simp⟩
        have hown : ∀ k, _ → k < wr.heap.size ∨ (wr.alloc (Obj.cells #[.int .i64 z] 3)).heap.size ≤ k := fun k hk => .inl (HLI.out.own.lt k hk).2
        exact ⟨i + 1, _, by omega, by go_num, Lib.hid (by rw [HTK.out]; exact (HLI.out.ext HX1.out).push HX.out.size (Nat.le_refl _) hown HS (by rw [HTL.out]; exact HO4) HG4 HM4), Lib.hid (Ext.own_grown (HX.out.trans HX1.out) HO HG4)⟩
      case measure => simp [intOf]; omega
    · obtain rfl : i = l.length := by omega
      go_wp2_with fail
      go_ret
      exact .mk _ rfl HX.out (by have h := HLI.out; rw [List.take_length] at h; obtain ⟨R, hR, _⟩ := h.rws; exact ⟨R, hR⟩)
end
end Go.Proofs.YtnmjaddhbecopaaGreatDoor
end
section
namespace Go.Proofs.YtnmjaddhbecopaaGreatDoor
open Go.RowKit Go.Att
section
variable {w : World} {b : Nat} {p sz out n g : Int} {cd : List In4} {lv : Value} {x y a gg : Int} {K : Nat}
theorem TAt.c0 (h : TAt w b p sz out n g cd lv x y a gg) : w.cell? ⟨b, 0, none⟩ = some (.int .i64 p) := h.blk.cell 0
theorem TAt.c4 (h : TAt w b p sz out n g cd lv x y a gg) : w.cell? ⟨b, 4, none⟩ = some (.int .i64 n) := h.blk.cell 4
theorem rpointT_any (p n sh r : Int) (i : Nat) (w : World) (hp : 2 ≤ p) (hp2 : p ≤ 2147483647) (hi : i ≤ 9223372036854775807) (j : Int) (hj : j = i) :
    Calls Tryz.prog 148 #[.agg #[.int .i64 p, .int .i64 n, .int .i64 sh, .int .i64 r], .int .i64 j] w fun e w' => e = .returned (.int .i64 (ptAt p sh r i)) ∧ Ext w w' := by
  subst hj; exact rpoint_any p n sh r i w hp hp2 hi
theorem rpow_q (p a n : Int) (w : World) (hp : 2 ≤ p) (hp2 : p ≤ 2147483647) (h0 : 0 ≤ n) (hn : n ≤ 9223372036854775807) (m : Nat) :
    Calls Tryz.prog 56 #[.int .i64 p, .int .i64 a, .int .i64 n] (w.drewN m) fun e w' => e = .returned (.int .i64 (fpow p a n.toNat)) ∧ ∃ m, w' = w.drewN m := by
  obtain ⟨k, rfl⟩ := Int.eq_ofNat_of_zero_le h0
  exact (rpow_any p a k _ hp hp2 (by omega)).mono fun _ _ h => ⟨h.1, m, h.2.symm⟩
set_option maxRecDepth 100000 in
set_option maxHeartbeats 8000000 in
theorem divided_any (h : TAt w b p sz out n g cd lv x y a gg) (hp : 3 ≤ p) (hp2 : p ≤ 2147483647) (hn : 4 ≤ n ∧ n ≤ 512) (v t : Int) (k : Nat) (ki : Int) (hk : (k = 0 ∧ ki = 0) ∨ (k = 1 ∧ ki = 1) ∨ (k = 2 ∧ ki = 2) ∨ (k = 3 ∧ ki = 3)) :
    Calls Tryz.prog 153 #[.pointer (some ⟨b, 0, none⟩), .int .i64 v, .int .i64 ki, .int .i64 t] w fun e w' => e = .returned (.int .i64 (divD p t (ptAt p 1 (froot p g n) (n.toNat - 1)) n.toNat k v)) ∧ Ext w w' := by
  have H := Lib.hid h
  have hpp : 2 ≤ p := by omega
  obtain ⟨m, hm⟩ : ∃ m : Nat, n = m := ⟨n.toNat, by omega⟩
  have hm1 : n - 1 = ((n.toNat - 1 : Nat) : Int) := by omega
  have hm2 : n = ((n.toNat : Nat) : Int) := by omega
  have HM1 := Lib.hid hm1; have HM2 := Lib.hid hm2
  have c0 := h.c0
  have c4 := h.c4
  have c5 : w.cell? ⟨b, 5, none⟩ = some (.int .i64 p) := h.blk.cell 5
  have c6 : w.cell? ⟨b, 6, none⟩ = some (.int .i64 n) := h.blk.cell 6
  have c7 : w.cell? ⟨b, 7, none⟩ = some (.int .i64 1) := h.blk.cell 7
  have c8 : w.cell? ⟨b, 8, none⟩ = some (.int .i64 (froot p g n)) := h.blk.cell 8
  clear h hm hm1 hm2
  go_enter Tryz.func153, Tryz.ntmps153
  go_wp2_with fail
  refine wp_region_quiet_tail 9 (by kernel_rfl) (by kernel_rfl) ?_
  simp only [List.take_succ_cons, List.take_zero, List.drop_succ_cons, List.drop_zero]
  repeat (go_big_quiet_step (fail))
  refine wpQuiet_nil ?_
  rintro _ ⟨m1, rfl⟩
  obtain ⟨la, hla⟩ : ∃ la, ptAt p 1 (froot p g n) (n.toNat - 1) = la := ⟨_, rfl⟩
  have HLA := Lib.hid hla
  go_wp2_with (go_at_call 148; refine (rpointT_any p n 1 (froot p g n) (n.toNat - 1) _ hpp hp2 (by omega) _ HM1.out).mono ?_; rw [hla]; rintro e w2 ⟨rfl, hx2⟩)
  have HX2 := Lib.hid ((Ext.drewN w m1).trans hx2)
  have H2 := Lib.hid (H.out.ext HX2.out)
  clear c0 c4 c5 c6 c7 c8 hla hx2 H
  have c0 := H2.out.c0
  have c4 := H2.out.c4
  go_quiet ((go_at_call 56; exact rpow_q p t n w2 hpp hp2 (by omega) (by omega) _))
  have HX3 := Lib.hid (HX2.out.trans (Ext.drewN w2 nq))
  have H3 := Lib.hid (H2.out.ext (Ext.drewN w2 nq))
  clear c0 c4 HX2 H2
  generalize w2.drewN nq = W3 at *
  have c0 := H3.out.c0
  clear H3
  have HDV := Lib.hid (show ∀ k v, divD p t la n.toNat k v = if k = 0 then fdiv p v (fsub p (fpow p t n.toNat) 1) else if k = 1 then fdiv p (fmul p v (fsub p t la)) (fsub p (fpow p t n.toNat) 1) else if k = 2 then fdiv p v (fsub p t 1) else fdiv p v (fsub p t la) from fun _ _ => rfl)
  rcases hk with ⟨rfl, rfl⟩ | ⟨rfl, rfl⟩ | ⟨rfl, rfl⟩ | ⟨rfl, rfl⟩
  all_goals
    go_wp2_with (first | (go_at_call 151; refine (rsub_any _ _ _ _ hpp hp2).mono ?_; rintro e w' ⟨rfl, rfl⟩) | (go_at_call 57; refine (rmul_any _ _ _ _ hpp hp2).mono ?_; rintro e w' ⟨rfl, rfl⟩) | (go_at_call 228; refine (rdiv_any _ _ _ _ hpp hp2).mono ?_; rintro e w' ⟨rfl, rfl⟩))
    go_ret
    exact ⟨ret_int (by rw [HLA.out, HDV.out]; rfl), HX3.out⟩
/-- What rule l + 26 says. -/
def prodD (p x y : Int) (r : List Int) (z zn : Int) : Int := fsub p (fmul p (facB p x y r) zn) (fmul p (facA p x y r) z)
set_option maxRecDepth 100000 in
set_option maxHeartbeats 8000000 in
theorem dproduct_any (h : TAt w b p sz out n g cd lv x y a gg) (hp : 2 ≤ p) (hp2 : p ≤ 2147483647) {v : Value} {r : List Int} (hv : Ints w v r) (h20 : 20 ≤ r.length) (z zn : Int) :
    Calls Tryz.prog 150 #[.pointer (some ⟨b, 0, none⟩), v, .int .i64 z, .int .i64 zn] w fun e w' => e = .returned (.int .i64 (prodD p x y r z zn)) ∧ Ext w w' := by
  have H := Lib.hid h; have HV := Lib.hid hv
  obtain ⟨av, cv, rfl⟩ := hv.shape
  clear h hv
  go_enter Tryz.func150, Tryz.ntmps150
  have HX1 := Lib.hid (Ext.alloc w (Obj.cells #[.slice av r.length cv] 23))
  have HR1 := Lib.hid (show Rws (w.alloc (Obj.cells #[.slice av r.length cv] 23)) (.slice (some ⟨w.heap.size, 0, none⟩) 1 1) [r] from ⟨fun _ => .slice av r.length cv, blk_sl (BlkOf.new w [.slice av r.length cv] 23) (by simp) (by decide), fun i hi => by
    have : i = 0 := by simpa using hi
    subst this
    exact HV.out.ext (Ext.alloc w _)⟩)
  have x0 := HX1.out.cell H.out.c0
  have HPR := Lib.hid (show ∀ a b, prsL p [r] a b = prsR p r a b from fun a b => by simp [prsL])
  have HSH := Lib.hid (show ∀ i, i < [r].length → 20 ≤ (nthL [r] i).length from fun i hi => by
    have h0 : i = 0 := by simpa using hi
    subst h0
    exact h20)
  go_wp2_with (go_at_call 220; refine (rpairs_any p _ [r] 12 16 _ HR1.out HSH.out (by omega) (by omega) (by simp) hp hp2).mono ?_; rintro e w2 ⟨v2, rfl, hx2, hq2⟩; rw [HPR.out] at hq2)
  have HX2 := Lib.hid (HX1.out.trans hx2)
  have HR2 := Lib.hid (HR1.out.ext hx2)
  have HQ2 := Lib.hid hq2
  clear HX1 HR1 x0 hx2 hq2
  generalize hq : w.heap.size = q at *
  clear hq
  have hb := H.out.blk.ext HX2.out
  have x0 : w2.cell? ⟨b, 0, none⟩ = some (.int .i64 p) := hb.cell 0
  have x13 : w2.cell? ⟨b, 13, none⟩ = some (.int .i64 x) := hb.cell 13
  have x14 : w2.cell? ⟨b, 14, none⟩ = some (.int .i64 y) := hb.cell 14
  clear hb
  refine wp_region_quiet_tail 13 (by kernel_rfl) (by kernel_rfl) ?_
  simp only [List.take_succ_cons, List.take_zero, List.drop_succ_cons, List.drop_zero]
  repeat (go_big_quiet_step (fail))
  refine wpQuiet_nil ?_
  rintro _ ⟨m1, rfl⟩
  go_wp2_with (go_at_call 221; refine (make_any p x y _ (prsR p r 12 16) _ (HQ2.out.ext (Ext.drewN _ _)) hp hp2).mono ?_; rintro e w3 ⟨rfl, hx3⟩; have HX3 := Lib.hid ((HX2.out.trans (Ext.drewN _ _)).trans hx3); have HR3 := Lib.hid ((HR2.out.ext (Ext.drewN _ _)).ext hx3); have y0 := HX3.out.cell H.out.c0; clear x0 x13 x14 hx3)
  refine (rpairs_any p _ [r] 3 7 _ HR3.out HSH.out (by omega) (by omega) (by simp) hp hp2).mono ?_
  rintro e w4 ⟨v4, rfl, hx4, hq4⟩
  rw [HPR.out] at hq4
  have HX4 := Lib.hid (HX3.out.trans hx4)
  have HQ4 := Lib.hid hq4
  clear HX3 HR3 y0 hx4 hq4 HR2 HX2 HQ2
  have hb := H.out.blk.ext HX4.out
  have x0 : w4.cell? ⟨b, 0, none⟩ = some (.int .i64 p) := hb.cell 0
  have x13 : w4.cell? ⟨b, 13, none⟩ = some (.int .i64 x) := hb.cell 13
  have x14 : w4.cell? ⟨b, 14, none⟩ = some (.int .i64 y) := hb.cell 14
  clear hb
  go_wp2_with fail
  refine wp_region_quiet_tail 13 (by kernel_rfl) (by kernel_rfl) ?_
  simp only [List.take_succ_cons, List.take_zero, List.drop_succ_cons, List.drop_zero]
  repeat (go_big_quiet_step (fail))
  refine wpQuiet_nil ?_
  rintro _ ⟨m2, rfl⟩
  go_wp2_with (first | (go_at_call 221; refine (make_any p x y _ (prsR p r 3 7) _ (HQ4.out.ext (Ext.drewN _ _)) hp hp2).mono ?_; rintro e w5 ⟨rfl, hx5⟩; have HX5 := Lib.hid ((HX4.out.trans (Ext.drewN _ _)).trans hx5); have y0 := HX5.out.cell H.out.c0; clear x0 x13 x14 hx5) | (go_at_call 57; refine (rmul_any _ _ _ _ hp hp2).mono ?_; rintro e w' ⟨rfl, rfl⟩) | (go_at_call 151; refine (rsub_any _ _ _ _ hp hp2).mono ?_; rintro e w' ⟨rfl, rfl⟩))
  go_ret
  exact ⟨rfl, HX5.out⟩
end
end Go.Proofs.YtnmjaddhbecopaaGreatDoor
end
