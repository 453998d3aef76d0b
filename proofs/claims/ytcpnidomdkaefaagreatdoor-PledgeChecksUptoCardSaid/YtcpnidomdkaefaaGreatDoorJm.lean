/- The root of a table, both sides: contracts. -/
import Derived.Test.YtcpnidomdkaefaaGreatDoorJf
import Derived.Test.YtcpnidomdkaefaaGreatDoorJk
import Derived.Test.YtcpnidomdkaefaaGreatDoorJl
namespace Go.Att
open Go.RowKit
theorem ev_fofP {p : Int} (x : Int) : ∀ l : List Int, ev (l.map (fof p)) x % p = ev l x % p
  | [] => rfl
  | a :: l => by
    simp only [List.map_cons, ev]
    have h := ev_fofP (p := p) x l
    rw [show fof p a = a % p from rfl, Int.add_emod, Int.mul_emod, h, ← Int.mul_emod, Int.emod_emod_of_dvd _ (Int.dvd_refl p), ← Int.add_emod]
/-- The columns of rows of elements are those of the rows. -/
theorem colsL_fof (p sh r : Int) (n : Nat) (l : List Int) (M C : Nat) : colsL p sh r n (rowsL (l.map (fof p)) M C) = colsL p sh r n (rowsL l M C) := by
  unfold colsL colOf
  refine List.map_congr_left fun j _ => ?_
  unfold rowsL
  rw [List.map_map, List.map_map]
  refine List.map_congr_left fun i _ => ?_
  simp only [Function.comp]
  rw [← List.map_drop, ← List.map_take, ev_fofP]
theorem colsL_row (p sh r : Int) (n : Nat) (rows : List (List Int)) (i : Nat) (h : i < n) : (nthL (colsL p sh r n rows) i).length = rows.length := by
  rw [nthL_eq (by rw [colsL_length]; exact h)]; simp [colsL, colOf]
/-- The root of a table over 2^k places. -/
def tabR (p sh r : Int) (q N k : Nat) (l : List Int) : List Int := rootF p q N (colsL p sh r N (rowsL l (2 ^ (k - k / 2)) (2 ^ (k / 2))))
theorem pow12 {k : Nat} (h : k ≤ 12) : 2 ^ k ≤ 4096 := Nat.le_trans (Nat.pow_le_pow_right (by decide) h) (by decide)
end Go.Att
namespace Go.Proofs.YtcpnidomdkaefaaGreatDoor
open Go.RowKit Go.Att
section
variable {w : World}
set_option maxRecDepth 100000 in
theorem tright_any (n : Nat) (h1 : 1 ≤ n) (h2 : n ≤ 65536) : Calls Tryz.prog 111 #[.int .i64 n] w fun e w' => e = .returned (.bool true) ∧ w = w' := by
  go_enter Tryz.func111, Tryz.ntmps111
  go_wp2_with fail
  go_ret
  exact ⟨by first | rfl | (congr; simp; omega), rfl⟩
set_option maxRecDepth 100000 in
set_option maxHeartbeats 4000000 in
theorem tRoot_any {bs : Nat} {p : Int} {q : Nat} (hs : Spg w (.pointer (some ⟨bs, 0, none⟩)) p q) {vr : Value} {L : List (List Int)} {R : Nat → Value} (hr : RwsAt w vr L R) (h1 : 1 ≤ L.length) (h2 : L.length ≤ 65536) (hrl : ∀ i, i < L.length → (nthL L i).length ≤ 4294960000) :
    Calls Tryz.prog 70 #[.pointer (some ⟨bs, 0, none⟩), vr] w (Gives w fun u w' => ∃ v, u = .tuple #[v, .nilIface] ∧ Ints w' v (rootF p q L.length L)) := by
  have hll := hr.run_len (P := Tryz.prog) slRows
  have C := Lib.hid (by
    have := troot_any hs hr h2 hrl L.length L.length 0 h1 (Nat.le_refl _) (by omega) w (Ext.refl w)
    rw [List.drop_zero, List.take_length, show ((0 : Nat) : Int) = 0 from rfl, Int.zero_add] at this
    exact this)
  have CR := Lib.hid (fun W => tright_any (w := W) L.length h1 h2)
  clear hs hr hrl
  go_enter Tryz.func70, Tryz.ntmps70
  go_wp2_with (first | (go_at_call 111; refine (CR.out _).mono ?_; rintro e w' ⟨rfl, rfl⟩) | (go_at_call 123; refine C.out.mono ?_; rintro e w2 ⟨v2, rfl, hx2, hi2⟩; have HI2 := Lib.hid hi2; clear hi2))
  go_ret2
  exact .mk _ rfl hx2 ⟨_, rfl, HI2.out⟩
section
variable {d : Value} {bf : Nat} {p g0 n sh rt : Int} {fs : List Int}
end
end
end Go.Proofs.YtcpnidomdkaefaaGreatDoor
