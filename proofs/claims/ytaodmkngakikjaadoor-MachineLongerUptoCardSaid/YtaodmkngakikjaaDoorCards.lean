/-
  DERIVED. GIVEN WITH THE SEED: THE CARDS: each row of YtaodmkngakikjaaDoorRows.lean that lists a variable, with what it lists TIED to the program's text (the seventh form; the later family's looks); each row that meets fmt, with fmt's text TOLD by the authors' own Lean function (tested against real Go, not proved from fmt's source: count such statements apart). THE CARD IS WHAT COUNTS. Prove the row's statement (the work); the ties are given (YtaodmkngakikjaaDoorTie.lean); close each card by the builder's one call (the guide's Derived/Test/ToyasCard.lean, 'card_holds'). Laid BY PROGRAM, IN A SANDBOX (cutbox-door.mjs). By AI agents, Wed Nov 11 2026. No macro, syntax, notation, axiom, sorry.
-/
import Derived.Test.YtaodmkngakikjaaDoorRows
import GoSem.ClaimSeven
namespace Go.Proofs.YtaodmkngakikjaaDoor
namespace Rows

/-- THE TIED CARD OF 'attestlaw6.MachineRuns'. -/
def machineRunsCard : Claim7 := { stood := { row := machineRunsRow, standIns := [], harness := (true, "827d82c56359788a8666485d102e49f3fb7cc086777e6279045d5fc112145d86"), looks := true }, kinds := [], alts := [], laidByText := true, laidKinds := [.handle], laidTests := true, laidLooks := .later }
def MachineRunsCardSaid : Prop := Claim7.holds Tryd.pinned (.plain (OpenSpec.ofChange machineRunsSpec)) machineRunsCard

/-- THE TIED CARD OF 'attestlaw6.MachineLonger'. -/
def machineLongerCard : Claim7 := { stood := { row := machineLongerRow, standIns := [], harness := (true, "827d82c56359788a8666485d102e49f3fb7cc086777e6279045d5fc112145d86"), looks := true }, kinds := [], alts := [], laidByText := true, laidKinds := [.handle], laidTests := true, laidLooks := .later }
def MachineLongerCardSaid : Prop := Claim7.holds Tryd.pinned (.plain (OpenSpec.ofChange machineLongerSpec)) machineLongerCard

/-- THE SECOND FORM's CARD OF 'attestlaw6.MachineRuns'. -/
def machineRunsUptoCard : Claim7 := { stood := { row := machineRunsUptoRow, standIns := [], harness := (true, "827d82c56359788a8666485d102e49f3fb7cc086777e6279045d5fc112145d86"), looks := true }, kinds := [], alts := [], laidByText := true, laidKinds := [.handle], laidTests := true, laidLooks := .later }
def MachineRunsUptoCardSaid : Prop := Claim7.holds Tryd.pinned (.plain (OpenSpec.upto machineRunsSpec)) machineRunsUptoCard

/-- THE SECOND FORM's CARD OF 'attestlaw6.MachineLonger'. -/
def machineLongerUptoCard : Claim7 := { stood := { row := machineLongerUptoRow, standIns := [], harness := (true, "827d82c56359788a8666485d102e49f3fb7cc086777e6279045d5fc112145d86"), looks := true }, kinds := [], alts := [], laidByText := true, laidKinds := [.handle], laidTests := true, laidLooks := .later }
def MachineLongerUptoCardSaid : Prop := Claim7.holds Tryd.pinned (.plain (OpenSpec.upto machineLongerSpec)) machineLongerUptoCard
end Rows
end Go.Proofs.YtaodmkngakikjaaDoor
