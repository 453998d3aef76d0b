/- The numbers modulo a prime, as the document has them and as the program has them: contracts. -/
import Derived.Test.YtejkepihicphlaaGreatDoorVc
import Derived.Test.YtejkepihicphlaaGreatDoorProg
import Derived.Test.YtejkepihicphlaaGreatDoorPl
/-! The numbers modulo a prime, as the document has them and as the program has them: contracts. -/
namespace Go.Proofs.YtejkepihicphlaaGreatDoor
open Go.RowKit Go.Att

/-! The program's. -/
section
variable {w : World} {f : Value} {p g : Int} {fs : List Int}
end
end Go.Proofs.YtejkepihicphlaaGreatDoor
/-! The document's sums and products in a region that draws. -/
namespace Go.Proofs.YtejkepihicphlaaGreatDoor
open Go.RowKit Go.Att
end Go.Proofs.YtejkepihicphlaaGreatDoor
/-! Powers, primes, the making of a field: contracts. -/
namespace Go.Proofs.YtejkepihicphlaaGreatDoor
open Go.RowKit Go.Att

section
variable {w : World} {f : Value} {p g : Int} {fs : List Int}
end
end Go.Proofs.YtejkepihicphlaaGreatDoor
/-! Whether a number is a prime; the primes that divide one: contracts. -/
namespace Go.Proofs.YtejkepihicphlaaGreatDoor
open Go.RowKit Go.Att

end Go.Proofs.YtejkepihicphlaaGreatDoor
