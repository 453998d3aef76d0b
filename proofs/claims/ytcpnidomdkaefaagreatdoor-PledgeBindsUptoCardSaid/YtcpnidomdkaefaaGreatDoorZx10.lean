/- One word of several, the program's side: contract. Sums of rows by powers, the program's side: contracts. Words that are no codewords show: plain laws. A copy of a list; a polynomial's end: contracts. By halves: what spread comes to is what the polynomial is at the powers of a root: plain laws. No program in sight. A word's coefficients; is it a codeword?: contracts. -/
import Derived.Test.YtcpnidomdkaefaaGreatDoorZx2
import Derived.Test.YtcpnidomdkaefaaGreatDoorZx11
import Derived.Test.YtcpnidomdkaefaaGreatDoorZx9
section
/-! One word of several, the program's side: contract. -/
namespace Go.Att
open Go.RowKit
/-- The numbers at a place of all words. -/
def col (L : List (List Int)) (i : Nat) : List Int := L.map fun l => nth l i
end Go.Att
namespace Go.Proofs.YtcpnidomdkaefaaGreatDoor
open Go.RowKit Go.Att

theorem slRows : SlT Tryz.prog 23 22 1 24 (.slice none 0 0) := .mk' Tryz.underlying23 (by kernel_rfl) (by decide)

end Go.Proofs.YtcpnidomdkaefaaGreatDoor
/-! One word of several, the program's side: the words that fit. -/
namespace Go.Proofs.YtcpnidomdkaefaaGreatDoor
open Go.RowKit Go.Att

end Go.Proofs.YtcpnidomdkaefaaGreatDoor
end
section
namespace Go.Att
open Go.RowKit
end Go.Att
namespace Go.Proofs.YtcpnidomdkaefaaGreatDoor
open Go.RowKit Go.Att

end Go.Proofs.YtcpnidomdkaefaaGreatDoor
end
section
namespace Go.Att
/-- A word's coefficient at a place, but for what it is taken modulo. -/
def cz (K : Nat) (g : Int) (wt : Nat → Int) (word : List Int) (j : Nat) : Int := sprZ K (nth word) g j * wt j
/-- Is it a codeword? -/
def CW (p : Int) (K k : Nat) (g : Int) (wt : Nat → Int) (word : List Int) : Prop := ∀ j, k ≤ j → j < 2 ^ K → cz K g wt word j % p = 0
end Go.Att
end
section
namespace Go.Att
open Go.RowKit
theorem own_empty (w : World) (e sz : Nat) : (w.alloc (Obj.cells #[] e)).ownsRow w.heap.size e sz (.slice (some ⟨w.heap.size, 0, none⟩) 0 0) 0 [] :=
  ⟨by simp, .inr ⟨w.heap.size, 0, #[], rfl, Nat.le_refl _, heap_alloc_new w _, Nat.le_refl _, Nat.zero_le _, by simp, by simp⟩⟩
end Go.Att
namespace Go.Proofs.YtcpnidomdkaefaaGreatDoor
open Go.RowKit Go.Att

set_option maxRecDepth 100000 in
set_option maxHeartbeats 1000000 in
theorem clone_any {w : World} {va : Value} {l : List Int} (hl : Ints w va l) (h63 : l.length ≤ 4294967296) :
    Calls Tryz.prog 61 #[va] w (Gives w fun u w' => w'.ownsRow w.heap.size 3 1 u l.length (l.map (Value.int .i64))) := by
  have hsl : Sl w 1 va l.length (l.map (Value.int .i64)) := hl
  obtain ⟨ao, cap, hv⟩ := hl.shape
  have HS := Lib.hid hsl
  subst hv
  have hq : ∀ w', (binOp .eql 22 (.slice ao l.length cap) (.slice none 0 0)).run Tryz.prog w' = .ok (.bool ao.isNone) w' := fun w' => Lib.run_eql_slice_nil w' 22 3 ao l.length cap 0 0 Tryz.underlying22
  cases ao with
  | none =>
    obtain ⟨ao', cap', hv, h2, h3, h4, h5⟩ := hsl
    have hl0 : l.length = 0 := by
      apply Classical.byContradiction
      intro hn
      obtain ⟨b, off, e, _⟩ := h5 0 (by simp; omega)
      simp only [Value.slice.injEq] at hv
      rw [e] at hv
      cases hv.1
    obtain rfl : l = [] := List.eq_nil_of_length_eq_zero hl0
    clear hv h2 h3 h4 h5 hl0
    simp only [List.length_nil, Option.isNone_none] at hq
    go_enter Tryz.func61, Tryz.ntmps61
    go_wp2
    go_ret
    exact .mk _ rfl (Ext.refl _) (World.ownsRow_nil _ _ _ _)
  | some a =>
    clear hsl
    go_enter Tryz.func61, Tryz.ntmps61
    go_wp2_with (at_builtin; refine wpList_appSl rfl _ _ 22 rfl slInts rfl (Ext.alloc w (Obj.cells #[] 3)) (own_empty w 3 1) rfl (HS.out.ext (Ext.alloc w _)) (by intro u hu; simp only [List.mem_map] at hu; obtain ⟨_, _, rfl⟩ := hu; rfl) rfl (by omega) (by omega) ?_; intro v1 w1 HO1 HX1 _)
    refine bodyPost_ret (v := v1) (by simp [results, Tryz.results61, go_sem]) rfl ?_
    exact .mk _ rfl HX1 (by simpa using HO1)

end Go.Proofs.YtcpnidomdkaefaaGreatDoor
end
section
namespace Go.Att
theorem pow_cong {p a b : Int} (h : a % p = b % p) (n : Nat) : a ^ n % p = b ^ n % p := by rw [← pow_mod p a n, h, pow_mod]
end Go.Att
namespace Go.Proofs.YtcpnidomdkaefaaGreatDoor
open Go.Att
end Go.Proofs.YtcpnidomdkaefaaGreatDoor
namespace Go.Att
end Go.Att
end
section
namespace Go.Att
open Go.RowKit
end Go.Att
namespace Go.Proofs.YtcpnidomdkaefaaGreatDoor
open Go.RowKit Go.Att
end Go.Proofs.YtcpnidomdkaefaaGreatDoor
end
