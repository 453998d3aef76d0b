/- A layer's sum, the program's side: the sum over the wires. -/
import Derived.Test.YthlnjfnlhgnblaaDoorP2
import Derived.Deep.RegionWith
namespace Go.Att
open Go.RowKit
theorem partS_step (p : Int) (l : List Tri) (n : Nat) (t z xs : List Int) (k : Nat) : partS l n t z xs (k + 1) = partS l n t z xs k + partT n t z xs k (nthT l k) := rfl
theorem fapp_gop {p k va vb X Y : Int} (h1 : va % p = X % p) (h2 : vb % p = Y % p) : fapp p k va vb = gop k X Y % p := by
  unfold fapp gop
  split
  · exact mmul h1 h2
  · exact madd h1 h2
theorem wpart_step {p S wz s1 s2 k va vb X Y : Int} (h1 : va % p = X % p) (h2 : vb % p = Y % p) : fadd p (S % p) (fmul p (fmul p (wz % p) (fmul p (s1 % p) (s2 % p))) (fapp p k va vb)) = (S + wz * (s1 * s2) * gop k X Y) % p := by
  rw [fapp_gop h1 h2]
  simp only [fadd, fmul, em_l, em_r, ea_l, ea_r]
end Go.Att
namespace Go.Proofs.YthlnjfnlhgnblaaDoor
open Go.RowKit Go.Att

end Go.Proofs.YthlnjfnlhgnblaaDoor
