/-
  DERIVED. GIVEN WITH THE SEED: THE CARDS: each row of YthjemncbphdomaaDoorRows.lean that lists a variable, with what it lists TIED to the program's text (the seventh form; the later family's looks); each row that meets fmt, with fmt's text TOLD by the authors' own Lean function (tested against real Go, not proved from fmt's source: count such statements apart). THE CARD IS WHAT COUNTS. Prove the row's statement (the work); the ties are given (YthjemncbphdomaaDoorTie.lean); close each card by the builder's one call (the guide's Derived/Test/ToyasCard.lean, 'card_holds'). Laid BY PROGRAM, IN A SANDBOX (cutbox-door.mjs). By AI agents, Wed Nov 11 2026. No macro, syntax, notation, axiom, sorry.
-/
import Derived.Test.YthjemncbphdomaaDoorRows
import GoSem.ClaimSeven
namespace Go.Proofs.YthjemncbphdomaaDoor
namespace Rows

/-- THE TIED CARD OF 'attestlaw7.RulesSame'. -/
def rulesSameCard : Claim7 := { stood := { row := rulesSameRow, standIns := [], harness := (true, "983ee0d4e487868f9687d7744d0755db25d2581ba242b76ca911bdf07aad72b0"), looks := true }, kinds := [], alts := [], laidByText := true, laidKinds := [.handle], laidTests := true, laidLooks := .later }
def RulesSameCardSaid : Prop := Claim7.holds Tryd.pinned (.plain (OpenSpec.ofChange rulesSameSpec)) rulesSameCard

/-- THE TIED CARD OF 'attestlaw8.WholeBytes'. -/
def wholeBytesCard : Claim7 := { stood := { row := wholeBytesRow, standIns := [], harness := (true, "983ee0d4e487868f9687d7744d0755db25d2581ba242b76ca911bdf07aad72b0"), looks := true }, kinds := [], alts := [], laidByText := true, laidKinds := [.handle], laidTests := true, laidLooks := .later }
def WholeBytesCardSaid : Prop := Claim7.holds Tryd.pinned (.plain (OpenSpec.ofChange wholeBytesSpec)) wholeBytesCard

/-- THE TIED CARD OF 'attestlaw8.WholeBatches'. -/
def wholeBatchesCard : Claim7 := { stood := { row := wholeBatchesRow, standIns := [], harness := (true, "983ee0d4e487868f9687d7744d0755db25d2581ba242b76ca911bdf07aad72b0"), looks := true }, kinds := [], alts := [], laidByText := true, laidKinds := [.handle], laidTests := true, laidLooks := .later }
def WholeBatchesCardSaid : Prop := Claim7.holds Tryd.pinned (.plain (OpenSpec.ofChange wholeBatchesSpec)) wholeBatchesCard

/-- THE TIED CARD OF 'attestlaw6.MachineWalks'. -/
def machineWalksCard : Claim7 := { stood := { row := machineWalksRow, standIns := [], harness := (true, "983ee0d4e487868f9687d7744d0755db25d2581ba242b76ca911bdf07aad72b0"), looks := true }, kinds := [], alts := [], laidByText := true, laidKinds := [.handle], laidTests := true, laidLooks := .later }
def MachineWalksCardSaid : Prop := Claim7.holds Tryd.pinned (.plain (OpenSpec.ofChange machineWalksSpec)) machineWalksCard

/-- THE TIED CARD OF 'attestlaw10.GatesValues'. -/
def gatesValuesCard : Claim7 := { stood := { row := gatesValuesRow, standIns := [], harness := (true, "983ee0d4e487868f9687d7744d0755db25d2581ba242b76ca911bdf07aad72b0"), looks := true }, kinds := [], alts := [], laidByText := true, laidKinds := [.handle], laidTests := true, laidLooks := .later }
def GatesValuesCardSaid : Prop := Claim7.holds Tryd.pinned (.plain (OpenSpec.ofChange gatesValuesSpec)) gatesValuesCard

/-- THE TIED CARD OF 'attestlaw10.GatesParts'. -/
def gatesPartsCard : Claim7 := { stood := { row := gatesPartsRow, standIns := [], harness := (true, "983ee0d4e487868f9687d7744d0755db25d2581ba242b76ca911bdf07aad72b0"), looks := true }, kinds := [], alts := [], laidByText := true, laidKinds := [.handle], laidTests := true, laidLooks := .later }
def GatesPartsCardSaid : Prop := Claim7.holds Tryd.pinned (.plain (OpenSpec.ofChange gatesPartsSpec)) gatesPartsCard

/-- THE TIED CARD OF 'attestlaw10.PledgeKeeps'. -/
def pledgeKeepsCard : Claim7 := { stood := { row := pledgeKeepsRow, standIns := [], harness := (true, "983ee0d4e487868f9687d7744d0755db25d2581ba242b76ca911bdf07aad72b0"), looks := true }, kinds := [], alts := [], laidByText := true, laidKinds := [.handle], laidTests := true, laidLooks := .later }
def PledgeKeepsCardSaid : Prop := Claim7.holds Tryd.pinned (.plain (OpenSpec.ofChange pledgeKeepsSpec)) pledgeKeepsCard

/-- THE TIED CARD OF 'attestlaw10.GatesLayer'. -/
def gatesLayerCard : Claim7 := { stood := { row := gatesLayerRow, standIns := [], harness := (true, "983ee0d4e487868f9687d7744d0755db25d2581ba242b76ca911bdf07aad72b0"), looks := true }, kinds := [], alts := [], laidByText := true, laidKinds := [.handle], laidTests := true, laidLooks := .later }
def GatesLayerCardSaid : Prop := Claim7.holds Tryd.pinned (.plain (OpenSpec.ofChange gatesLayerSpec)) gatesLayerCard

/-- THE TIED CARD OF 'attestlaw10.GatesCatches'. -/
def gatesCatchesCard : Claim7 := { stood := { row := gatesCatchesRow, standIns := [], harness := (true, "983ee0d4e487868f9687d7744d0755db25d2581ba242b76ca911bdf07aad72b0"), looks := true }, kinds := [], alts := [], laidByText := true, laidKinds := [.handle], laidTests := true, laidLooks := .later }
def GatesCatchesCardSaid : Prop := Claim7.holds Tryd.pinned (.plain (OpenSpec.ofChange gatesCatchesSpec)) gatesCatchesCard

/-- THE TIED CARD OF 'attestlaw7.RulesBroken'. -/
def rulesBrokenCard : Claim7 := { stood := { row := rulesBrokenRow, standIns := [], harness := (true, "983ee0d4e487868f9687d7744d0755db25d2581ba242b76ca911bdf07aad72b0"), looks := true }, kinds := [], alts := [], laidByText := true, laidKinds := [.handle], laidTests := true, laidLooks := .later }
def RulesBrokenCardSaid : Prop := Claim7.holds Tryd.pinned (.plain (OpenSpec.ofChange rulesBrokenSpec)) rulesBrokenCard

/-- THE SECOND FORM's CARD OF 'attestlaw7.RulesSame'. -/
def rulesSameUptoCard : Claim7 := { stood := { row := rulesSameUptoRow, standIns := [], harness := (true, "983ee0d4e487868f9687d7744d0755db25d2581ba242b76ca911bdf07aad72b0"), looks := true }, kinds := [], alts := [], laidByText := true, laidKinds := [.handle], laidTests := true, laidLooks := .later }
def RulesSameUptoCardSaid : Prop := Claim7.holds Tryd.pinned (.plain (OpenSpec.upto rulesSameSpec)) rulesSameUptoCard

/-- THE SECOND FORM's CARD OF 'attestlaw8.WholeBytes'. -/
def wholeBytesUptoCard : Claim7 := { stood := { row := wholeBytesUptoRow, standIns := [], harness := (true, "983ee0d4e487868f9687d7744d0755db25d2581ba242b76ca911bdf07aad72b0"), looks := true }, kinds := [], alts := [], laidByText := true, laidKinds := [.handle], laidTests := true, laidLooks := .later }
def WholeBytesUptoCardSaid : Prop := Claim7.holds Tryd.pinned (.plain (OpenSpec.upto wholeBytesSpec)) wholeBytesUptoCard

/-- THE SECOND FORM's CARD OF 'attestlaw8.WholeBatches'. -/
def wholeBatchesUptoCard : Claim7 := { stood := { row := wholeBatchesUptoRow, standIns := [], harness := (true, "983ee0d4e487868f9687d7744d0755db25d2581ba242b76ca911bdf07aad72b0"), looks := true }, kinds := [], alts := [], laidByText := true, laidKinds := [.handle], laidTests := true, laidLooks := .later }
def WholeBatchesUptoCardSaid : Prop := Claim7.holds Tryd.pinned (.plain (OpenSpec.upto wholeBatchesSpec)) wholeBatchesUptoCard

/-- THE SECOND FORM's CARD OF 'attestlaw6.MachineWalks'. -/
def machineWalksUptoCard : Claim7 := { stood := { row := machineWalksUptoRow, standIns := [], harness := (true, "983ee0d4e487868f9687d7744d0755db25d2581ba242b76ca911bdf07aad72b0"), looks := true }, kinds := [], alts := [], laidByText := true, laidKinds := [.handle], laidTests := true, laidLooks := .later }
def MachineWalksUptoCardSaid : Prop := Claim7.holds Tryd.pinned (.plain (OpenSpec.upto machineWalksSpec)) machineWalksUptoCard

/-- THE SECOND FORM's CARD OF 'attestlaw10.GatesValues'. -/
def gatesValuesUptoCard : Claim7 := { stood := { row := gatesValuesUptoRow, standIns := [], harness := (true, "983ee0d4e487868f9687d7744d0755db25d2581ba242b76ca911bdf07aad72b0"), looks := true }, kinds := [], alts := [], laidByText := true, laidKinds := [.handle], laidTests := true, laidLooks := .later }
def GatesValuesUptoCardSaid : Prop := Claim7.holds Tryd.pinned (.plain (OpenSpec.upto gatesValuesSpec)) gatesValuesUptoCard

/-- THE SECOND FORM's CARD OF 'attestlaw10.GatesParts'. -/
def gatesPartsUptoCard : Claim7 := { stood := { row := gatesPartsUptoRow, standIns := [], harness := (true, "983ee0d4e487868f9687d7744d0755db25d2581ba242b76ca911bdf07aad72b0"), looks := true }, kinds := [], alts := [], laidByText := true, laidKinds := [.handle], laidTests := true, laidLooks := .later }
def GatesPartsUptoCardSaid : Prop := Claim7.holds Tryd.pinned (.plain (OpenSpec.upto gatesPartsSpec)) gatesPartsUptoCard

/-- THE SECOND FORM's CARD OF 'attestlaw10.PledgeKeeps'. -/
def pledgeKeepsUptoCard : Claim7 := { stood := { row := pledgeKeepsUptoRow, standIns := [], harness := (true, "983ee0d4e487868f9687d7744d0755db25d2581ba242b76ca911bdf07aad72b0"), looks := true }, kinds := [], alts := [], laidByText := true, laidKinds := [.handle], laidTests := true, laidLooks := .later }
def PledgeKeepsUptoCardSaid : Prop := Claim7.holds Tryd.pinned (.plain (OpenSpec.upto pledgeKeepsSpec)) pledgeKeepsUptoCard

/-- THE SECOND FORM's CARD OF 'attestlaw10.GatesLayer'. -/
def gatesLayerUptoCard : Claim7 := { stood := { row := gatesLayerUptoRow, standIns := [], harness := (true, "983ee0d4e487868f9687d7744d0755db25d2581ba242b76ca911bdf07aad72b0"), looks := true }, kinds := [], alts := [], laidByText := true, laidKinds := [.handle], laidTests := true, laidLooks := .later }
def GatesLayerUptoCardSaid : Prop := Claim7.holds Tryd.pinned (.plain (OpenSpec.upto gatesLayerSpec)) gatesLayerUptoCard

/-- THE SECOND FORM's CARD OF 'attestlaw10.GatesCatches'. -/
def gatesCatchesUptoCard : Claim7 := { stood := { row := gatesCatchesUptoRow, standIns := [], harness := (true, "983ee0d4e487868f9687d7744d0755db25d2581ba242b76ca911bdf07aad72b0"), looks := true }, kinds := [], alts := [], laidByText := true, laidKinds := [.handle], laidTests := true, laidLooks := .later }
def GatesCatchesUptoCardSaid : Prop := Claim7.holds Tryd.pinned (.plain (OpenSpec.upto gatesCatchesSpec)) gatesCatchesUptoCard

/-- THE SECOND FORM's CARD OF 'attestlaw7.RulesBroken'. -/
def rulesBrokenUptoCard : Claim7 := { stood := { row := rulesBrokenUptoRow, standIns := [], harness := (true, "983ee0d4e487868f9687d7744d0755db25d2581ba242b76ca911bdf07aad72b0"), looks := true }, kinds := [], alts := [], laidByText := true, laidKinds := [.handle], laidTests := true, laidLooks := .later }
def RulesBrokenUptoCardSaid : Prop := Claim7.holds Tryd.pinned (.plain (OpenSpec.upto rulesBrokenSpec)) rulesBrokenUptoCard
end Rows
end Go.Proofs.YthjemncbphdomaaDoor
