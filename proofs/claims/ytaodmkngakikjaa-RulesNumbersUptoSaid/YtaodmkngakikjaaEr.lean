/- errors.As at the target *api.Errno, and what tells an error's number: contracts (turned from the guide's worked example ToyasAs). -/
import Derived.Test.YtaodmkngakikjaaVc
import Derived.Test.YtaodmkngakikjaaProg
import Derived.LaidEql
import Derived.Stop.Asserts
import Derived.RowKitTokens
/-! errors.As at the target *api.Errno, and what tells an error's number: contracts (turned from the guide's worked example ToyasAs). -/
namespace Go.Proofs.Ytaodmkngakikjaa
open Go.RowKit Go.Extern.Stop Go.Stop Go.Extern

theorem Try.size25 (w : World) : (sizeOf 72).run Try.prog w = .ok 1 w := by kernel_rfl
end Go.Proofs.Ytaodmkngakikjaa
/-! The number of an error, told: contracts. -/
namespace Go.Proofs.Ytaodmkngakikjaa
open Go.RowKit Go.Att

/-- An error of a number; of 0 there is none. -/
def errv (k : Int) : Value := if k = 0 then .nilIface else .iface 72 (.int .i64 k)
theorem errv_zero : errv 0 = .nilIface := rfl
theorem errv_pos {k : Int} (h : k ≠ 0) : errv k = .iface 72 (.int .i64 k) := if_neg h

end Go.Proofs.Ytaodmkngakikjaa
