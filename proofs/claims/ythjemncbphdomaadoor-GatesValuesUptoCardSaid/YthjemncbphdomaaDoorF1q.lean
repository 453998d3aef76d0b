/- The document's sums and products in a region that draws. -/
import Derived.Test.YthjemncbphdomaaDoorF1
namespace Go.Proofs.YthjemncbphdomaaDoor
open Go.RowKit Go.Att
theorem radd_q (p a b : Int) (w : World) (n : Nat) (hp : 2 ≤ p) (hp2 : p ≤ 2147483647) :
    Calls Tryd.prog 48 #[.int .i64 p, .int .i64 a, .int .i64 b] (w.drewN n) fun e w'' => e = .returned (.int .i64 (fadd p a b)) ∧ ∃ m, w'' = w.drewN m := (radd_any p a b _ hp hp2).mono fun _ _ h => ⟨h.1, n, h.2.symm⟩
theorem rmul_q (p a b : Int) (w : World) (n : Nat) (hp : 2 ≤ p) (hp2 : p ≤ 2147483647) :
    Calls Tryd.prog 57 #[.int .i64 p, .int .i64 a, .int .i64 b] (w.drewN n) fun e w'' => e = .returned (.int .i64 (fmul p a b)) ∧ ∃ m, w'' = w.drewN m := (rmul_any p a b _ hp hp2).mono fun _ _ h => ⟨h.1, n, h.2.symm⟩
end Go.Proofs.YthjemncbphdomaaDoor
