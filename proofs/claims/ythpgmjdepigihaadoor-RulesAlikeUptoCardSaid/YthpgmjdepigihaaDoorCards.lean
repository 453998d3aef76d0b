/-
  DERIVED. GIVEN WITH THE SEED: THE CARDS: each row of YthpgmjdepigihaaDoorRows.lean that lists a variable, with what it lists TIED to the program's text (the seventh form; the later family's looks); each row that meets fmt, with fmt's text TOLD by the authors' own Lean function (tested against real Go, not proved from fmt's source: count such statements apart). THE CARD IS WHAT COUNTS. Prove the row's statement (the work); the ties are given (YthpgmjdepigihaaDoorTie.lean); close each card by the builder's one call (the guide's Derived/Test/ToyasCard.lean, 'card_holds'). Laid BY PROGRAM, IN A SANDBOX (cutbox-door.mjs). By AI agents, Wed Nov 11 2026. No macro, syntax, notation, axiom, sorry.
-/
import Derived.Test.YthpgmjdepigihaaDoorRows
import GoSem.ClaimSeven
namespace Go.Proofs.YthpgmjdepigihaaDoor
namespace Rows

/-- THE TIED CARD OF 'attestlaw8.WholeBytes'. -/
def wholeBytesCard : Claim7 := { stood := { row := wholeBytesRow, standIns := [], harness := (true, "4725c60315c05de493c69f047b2c71a288cc89e404abcfdbc967f8ab17f142a1"), looks := true }, kinds := [], alts := [], laidByText := true, laidKinds := [.handle], laidTests := true, laidLooks := .later }
def WholeBytesCardSaid : Prop := Claim7.holds Tryd.pinned (.plain (OpenSpec.ofChange wholeBytesSpec)) wholeBytesCard

/-- THE TIED CARD OF 'attestlaw6.MachineWalks'. -/
def machineWalksCard : Claim7 := { stood := { row := machineWalksRow, standIns := [], harness := (true, "4725c60315c05de493c69f047b2c71a288cc89e404abcfdbc967f8ab17f142a1"), looks := true }, kinds := [], alts := [], laidByText := true, laidKinds := [.handle], laidTests := true, laidLooks := .later }
def MachineWalksCardSaid : Prop := Claim7.holds Tryd.pinned (.plain (OpenSpec.ofChange machineWalksSpec)) machineWalksCard

/-- THE TIED CARD OF 'attestlaw7.RulesBroken'. -/
def rulesBrokenCard : Claim7 := { stood := { row := rulesBrokenRow, standIns := [], harness := (true, "4725c60315c05de493c69f047b2c71a288cc89e404abcfdbc967f8ab17f142a1"), looks := true }, kinds := [], alts := [], laidByText := true, laidKinds := [.handle], laidTests := true, laidLooks := .later }
def RulesBrokenCardSaid : Prop := Claim7.holds Tryd.pinned (.plain (OpenSpec.ofChange rulesBrokenSpec)) rulesBrokenCard

/-- THE TIED CARD OF 'attestlaw7.RulesAlike'. -/
def rulesAlikeCard : Claim7 := { stood := { row := rulesAlikeRow, standIns := [], harness := (true, "4725c60315c05de493c69f047b2c71a288cc89e404abcfdbc967f8ab17f142a1"), looks := true }, kinds := [], alts := [], laidByText := true, laidKinds := [.handle], laidTests := true, laidLooks := .later }
def RulesAlikeCardSaid : Prop := Claim7.holds Tryd.pinned (.plain (OpenSpec.ofChange rulesAlikeSpec)) rulesAlikeCard

/-- THE TIED CARD OF 'attestlaw6.MachineRuns'. -/
def machineRunsCard : Claim7 := { stood := { row := machineRunsRow, standIns := [], harness := (true, "4725c60315c05de493c69f047b2c71a288cc89e404abcfdbc967f8ab17f142a1"), looks := true }, kinds := [], alts := [], laidByText := true, laidKinds := [.handle], laidTests := true, laidLooks := .later }
def MachineRunsCardSaid : Prop := Claim7.holds Tryd.pinned (.plain (OpenSpec.ofChange machineRunsSpec)) machineRunsCard

/-- THE TIED CARD OF 'attestlaw6.MachineLonger'. -/
def machineLongerCard : Claim7 := { stood := { row := machineLongerRow, standIns := [], harness := (true, "4725c60315c05de493c69f047b2c71a288cc89e404abcfdbc967f8ab17f142a1"), looks := true }, kinds := [], alts := [], laidByText := true, laidKinds := [.handle], laidTests := true, laidLooks := .later }
def MachineLongerCardSaid : Prop := Claim7.holds Tryd.pinned (.plain (OpenSpec.ofChange machineLongerSpec)) machineLongerCard

/-- THE SECOND FORM's CARD OF 'attestlaw8.WholeBytes'. -/
def wholeBytesUptoCard : Claim7 := { stood := { row := wholeBytesUptoRow, standIns := [], harness := (true, "4725c60315c05de493c69f047b2c71a288cc89e404abcfdbc967f8ab17f142a1"), looks := true }, kinds := [], alts := [], laidByText := true, laidKinds := [.handle], laidTests := true, laidLooks := .later }
def WholeBytesUptoCardSaid : Prop := Claim7.holds Tryd.pinned (.plain (OpenSpec.upto wholeBytesSpec)) wholeBytesUptoCard

/-- THE SECOND FORM's CARD OF 'attestlaw6.MachineWalks'. -/
def machineWalksUptoCard : Claim7 := { stood := { row := machineWalksUptoRow, standIns := [], harness := (true, "4725c60315c05de493c69f047b2c71a288cc89e404abcfdbc967f8ab17f142a1"), looks := true }, kinds := [], alts := [], laidByText := true, laidKinds := [.handle], laidTests := true, laidLooks := .later }
def MachineWalksUptoCardSaid : Prop := Claim7.holds Tryd.pinned (.plain (OpenSpec.upto machineWalksSpec)) machineWalksUptoCard

/-- THE SECOND FORM's CARD OF 'attestlaw7.RulesBroken'. -/
def rulesBrokenUptoCard : Claim7 := { stood := { row := rulesBrokenUptoRow, standIns := [], harness := (true, "4725c60315c05de493c69f047b2c71a288cc89e404abcfdbc967f8ab17f142a1"), looks := true }, kinds := [], alts := [], laidByText := true, laidKinds := [.handle], laidTests := true, laidLooks := .later }
def RulesBrokenUptoCardSaid : Prop := Claim7.holds Tryd.pinned (.plain (OpenSpec.upto rulesBrokenSpec)) rulesBrokenUptoCard

/-- THE SECOND FORM's CARD OF 'attestlaw7.RulesAlike'. -/
def rulesAlikeUptoCard : Claim7 := { stood := { row := rulesAlikeUptoRow, standIns := [], harness := (true, "4725c60315c05de493c69f047b2c71a288cc89e404abcfdbc967f8ab17f142a1"), looks := true }, kinds := [], alts := [], laidByText := true, laidKinds := [.handle], laidTests := true, laidLooks := .later }
def RulesAlikeUptoCardSaid : Prop := Claim7.holds Tryd.pinned (.plain (OpenSpec.upto rulesAlikeSpec)) rulesAlikeUptoCard

/-- THE SECOND FORM's CARD OF 'attestlaw6.MachineRuns'. -/
def machineRunsUptoCard : Claim7 := { stood := { row := machineRunsUptoRow, standIns := [], harness := (true, "4725c60315c05de493c69f047b2c71a288cc89e404abcfdbc967f8ab17f142a1"), looks := true }, kinds := [], alts := [], laidByText := true, laidKinds := [.handle], laidTests := true, laidLooks := .later }
def MachineRunsUptoCardSaid : Prop := Claim7.holds Tryd.pinned (.plain (OpenSpec.upto machineRunsSpec)) machineRunsUptoCard

/-- THE SECOND FORM's CARD OF 'attestlaw6.MachineLonger'. -/
def machineLongerUptoCard : Claim7 := { stood := { row := machineLongerUptoRow, standIns := [], harness := (true, "4725c60315c05de493c69f047b2c71a288cc89e404abcfdbc967f8ab17f142a1"), looks := true }, kinds := [], alts := [], laidByText := true, laidKinds := [.handle], laidTests := true, laidLooks := .later }
def MachineLongerUptoCardSaid : Prop := Claim7.holds Tryd.pinned (.plain (OpenSpec.upto machineLongerSpec)) machineLongerUptoCard
end Rows
end Go.Proofs.YthpgmjdepigihaaDoor
