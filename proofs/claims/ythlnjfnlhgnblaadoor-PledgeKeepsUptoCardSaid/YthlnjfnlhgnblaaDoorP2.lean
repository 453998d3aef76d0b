/- A layer's sum, the program's side: one side of a wire. -/
import Derived.Test.YthlnjfnlhgnblaaDoorP1
import Derived.Test.YthlnjfnlhgnblaaDoorCf
namespace Go.Att
open Go.RowKit
theorem idx_cast {P : Program} {t : TypeId} {v r : Value} {k k' : Int} (h : ∀ w', (Instr.indexAt t v (.int .i64 k)).run P w' = .ok r w') (e : k' = k) : ∀ w', (Instr.indexAt t v (.int .i64 k')).run P w' = .ok r w' := e ▸ h
theorem fixAll_step (p : Int) (T s : List Int) {k : Nat} (h : k < s.length) : fixAll p T (s.take (k + 1)) = fixL p (fixAll p T (s.take k)) (nth s k) := by
  rw [List.take_succ_eq_append_getElem h, fixAll_snoc]
  congr 1
  simp [nth, h]
theorem and_mask : ∀ r : Nat, r < 7 → ∀ A : Nat, A < 64 → bits BinOp.and IntKind.i64 (A : Int) ((2 : Int) ^ r - 1) = ((A % 2 ^ r : Nat) : Int) := by decide +kernel
theorem vrow_two {p wd : Int} {Ls : List (List Tri)} {inp : List Int} {n i : Nat} (hE : cirErr wd Ls = 0) (hin : (inp.length : Int) = 2 ^ wd.toNat) (hi : i < Ls.length) (hn : beneath wd Ls i = n) : (vrow p Ls inp i).length = 2 ^ n := by
  have h1 := vrow_length (p := p) (Ls := Ls) hin i
  have h2 := below_pow (cirErr_ok hE).1 hi
  rw [hn, Int.toNat_natCast] at h2
  rw [h2] at h1
  exact_mod_cast h1
end Go.Att
namespace Go.Proofs.YthlnjfnlhgnblaaDoor
open Go.RowKit Go.Att

end Go.Proofs.YthlnjfnlhgnblaaDoor
