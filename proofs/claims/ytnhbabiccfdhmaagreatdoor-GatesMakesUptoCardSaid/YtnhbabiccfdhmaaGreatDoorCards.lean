/-
  DERIVED. GIVEN WITH THE SEED: THE CARDS: each row of YtnhbabiccfdhmaaGreatDoorRows.lean that lists a variable, with what it lists TIED to the program's text (the seventh form; the later family's looks); each row that meets fmt, with fmt's text TOLD by the authors' own Lean function (tested against real Go, not proved from fmt's source: count such statements apart). THE CARD IS WHAT COUNTS. Prove the row's statement (the work); the ties are given (YtnhbabiccfdhmaaGreatDoorTie.lean); close each card by the builder's one call (the guide's Derived/Test/ToyasCard.lean, 'card_holds'). Laid BY PROGRAM, IN A SANDBOX (cutbox-door.mjs). By AI agents, Wed Nov 11 2026. No macro, syntax, notation, axiom, sorry.
-/
import Derived.Test.YtnhbabiccfdhmaaGreatDoorRows
import GoSem.ClaimSeven
namespace Go.Proofs.YtnhbabiccfdhmaaGreatDoor
namespace Rows

/-- THE TIED CARD OF 'attestlaw10.PledgeMixes'. -/
def pledgeMixesCard : Claim7 := { stood := { row := pledgeMixesRow, standIns := [], harness := (true, "7a5c2a58ab7508483643622e45226c15c9f00df1269a564aab05316c263fefe6"), looks := true }, kinds := [], alts := [], laidByText := true, laidKinds := [.handle], laidTests := true, laidLooks := .later }
def PledgeMixesCardSaid : Prop := Claim7.holds Tryz.pinned (.plain (OpenSpec.ofChange pledgeMixesSpec)) pledgeMixesCard

/-- THE TIED CARD OF 'attestlaw10.GatesMakes'. -/
def gatesMakesCard : Claim7 := { stood := { row := gatesMakesRow, standIns := [], harness := (true, "7a5c2a58ab7508483643622e45226c15c9f00df1269a564aab05316c263fefe6"), looks := true }, kinds := [], alts := [], laidByText := true, laidKinds := [.handle], laidTests := true, laidLooks := .later }
def GatesMakesCardSaid : Prop := Claim7.holds Tryz.pinned (.plain (OpenSpec.ofChange gatesMakesSpec)) gatesMakesCard

/-- THE TIED CARD OF 'attestlaw10.GatesChecks'. -/
def gatesChecksCard : Claim7 := { stood := { row := gatesChecksRow, standIns := [], harness := (true, "7a5c2a58ab7508483643622e45226c15c9f00df1269a564aab05316c263fefe6"), looks := true }, kinds := [], alts := [], laidByText := true, laidKinds := [.handle], laidTests := true, laidLooks := .later }
def GatesChecksCardSaid : Prop := Claim7.holds Tryz.pinned (.plain (OpenSpec.ofChange gatesChecksSpec)) gatesChecksCard

/-- THE TIED CARD OF 'attestlaw10.GatesTrue'. -/
def gatesTrueCard : Claim7 := { stood := { row := gatesTrueRow, standIns := [], harness := (true, "7a5c2a58ab7508483643622e45226c15c9f00df1269a564aab05316c263fefe6"), looks := true }, kinds := [], alts := [], laidByText := true, laidKinds := [.handle], laidTests := true, laidLooks := .later }
def GatesTrueCardSaid : Prop := Claim7.holds Tryz.pinned (.plain (OpenSpec.ofChange gatesTrueSpec)) gatesTrueCard

/-- THE TIED CARD OF 'attestlaw10.PledgeChecks'. -/
def pledgeChecksCard : Claim7 := { stood := { row := pledgeChecksRow, standIns := [], harness := (true, "7a5c2a58ab7508483643622e45226c15c9f00df1269a564aab05316c263fefe6"), looks := true }, kinds := [], alts := [], laidByText := true, laidKinds := [.handle], laidTests := true, laidLooks := .later }
def PledgeChecksCardSaid : Prop := Claim7.holds Tryz.pinned (.plain (OpenSpec.ofChange pledgeChecksSpec)) pledgeChecksCard

/-- THE TIED CARD OF 'attestlaw10.PledgeBinds'. -/
def pledgeBindsCard : Claim7 := { stood := { row := pledgeBindsRow, standIns := [], harness := (true, "7a5c2a58ab7508483643622e45226c15c9f00df1269a564aab05316c263fefe6"), looks := true }, kinds := [], alts := [], laidByText := true, laidKinds := [.handle], laidTests := true, laidLooks := .later }
def PledgeBindsCardSaid : Prop := Claim7.holds Tryz.pinned (.plain (OpenSpec.ofChange pledgeBindsSpec)) pledgeBindsCard

/-- THE TIED CARD OF 'attestlaw10.PledgeOpens'. -/
def pledgeOpensCard : Claim7 := { stood := { row := pledgeOpensRow, standIns := [], harness := (true, "7a5c2a58ab7508483643622e45226c15c9f00df1269a564aab05316c263fefe6"), looks := true }, kinds := [], alts := [], laidByText := true, laidKinds := [.handle], laidTests := true, laidLooks := .later }
def PledgeOpensCardSaid : Prop := Claim7.holds Tryz.pinned (.plain (OpenSpec.ofChange pledgeOpensSpec)) pledgeOpensCard

/-- THE SECOND FORM's CARD OF 'attestlaw10.PledgeMixes'. -/
def pledgeMixesUptoCard : Claim7 := { stood := { row := pledgeMixesUptoRow, standIns := [], harness := (true, "7a5c2a58ab7508483643622e45226c15c9f00df1269a564aab05316c263fefe6"), looks := true }, kinds := [], alts := [], laidByText := true, laidKinds := [.handle], laidTests := true, laidLooks := .later }
def PledgeMixesUptoCardSaid : Prop := Claim7.holds Tryz.pinned (.plain (OpenSpec.upto pledgeMixesSpec)) pledgeMixesUptoCard

/-- THE SECOND FORM's CARD OF 'attestlaw10.GatesMakes'. -/
def gatesMakesUptoCard : Claim7 := { stood := { row := gatesMakesUptoRow, standIns := [], harness := (true, "7a5c2a58ab7508483643622e45226c15c9f00df1269a564aab05316c263fefe6"), looks := true }, kinds := [], alts := [], laidByText := true, laidKinds := [.handle], laidTests := true, laidLooks := .later }
def GatesMakesUptoCardSaid : Prop := Claim7.holds Tryz.pinned (.plain (OpenSpec.upto gatesMakesSpec)) gatesMakesUptoCard

/-- THE SECOND FORM's CARD OF 'attestlaw10.GatesChecks'. -/
def gatesChecksUptoCard : Claim7 := { stood := { row := gatesChecksUptoRow, standIns := [], harness := (true, "7a5c2a58ab7508483643622e45226c15c9f00df1269a564aab05316c263fefe6"), looks := true }, kinds := [], alts := [], laidByText := true, laidKinds := [.handle], laidTests := true, laidLooks := .later }
def GatesChecksUptoCardSaid : Prop := Claim7.holds Tryz.pinned (.plain (OpenSpec.upto gatesChecksSpec)) gatesChecksUptoCard

/-- THE SECOND FORM's CARD OF 'attestlaw10.GatesTrue'. -/
def gatesTrueUptoCard : Claim7 := { stood := { row := gatesTrueUptoRow, standIns := [], harness := (true, "7a5c2a58ab7508483643622e45226c15c9f00df1269a564aab05316c263fefe6"), looks := true }, kinds := [], alts := [], laidByText := true, laidKinds := [.handle], laidTests := true, laidLooks := .later }
def GatesTrueUptoCardSaid : Prop := Claim7.holds Tryz.pinned (.plain (OpenSpec.upto gatesTrueSpec)) gatesTrueUptoCard

/-- THE SECOND FORM's CARD OF 'attestlaw10.PledgeChecks'. -/
def pledgeChecksUptoCard : Claim7 := { stood := { row := pledgeChecksUptoRow, standIns := [], harness := (true, "7a5c2a58ab7508483643622e45226c15c9f00df1269a564aab05316c263fefe6"), looks := true }, kinds := [], alts := [], laidByText := true, laidKinds := [.handle], laidTests := true, laidLooks := .later }
def PledgeChecksUptoCardSaid : Prop := Claim7.holds Tryz.pinned (.plain (OpenSpec.upto pledgeChecksSpec)) pledgeChecksUptoCard

/-- THE SECOND FORM's CARD OF 'attestlaw10.PledgeBinds'. -/
def pledgeBindsUptoCard : Claim7 := { stood := { row := pledgeBindsUptoRow, standIns := [], harness := (true, "7a5c2a58ab7508483643622e45226c15c9f00df1269a564aab05316c263fefe6"), looks := true }, kinds := [], alts := [], laidByText := true, laidKinds := [.handle], laidTests := true, laidLooks := .later }
def PledgeBindsUptoCardSaid : Prop := Claim7.holds Tryz.pinned (.plain (OpenSpec.upto pledgeBindsSpec)) pledgeBindsUptoCard

/-- THE SECOND FORM's CARD OF 'attestlaw10.PledgeOpens'. -/
def pledgeOpensUptoCard : Claim7 := { stood := { row := pledgeOpensUptoRow, standIns := [], harness := (true, "7a5c2a58ab7508483643622e45226c15c9f00df1269a564aab05316c263fefe6"), looks := true }, kinds := [], alts := [], laidByText := true, laidKinds := [.handle], laidTests := true, laidLooks := .later }
def PledgeOpensUptoCardSaid : Prop := Claim7.holds Tryz.pinned (.plain (OpenSpec.upto pledgeOpensSpec)) pledgeOpensUptoCard
end Rows
end Go.Proofs.YtnhbabiccfdhmaaGreatDoor
