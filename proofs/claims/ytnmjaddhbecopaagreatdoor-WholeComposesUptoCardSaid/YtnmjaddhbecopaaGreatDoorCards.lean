/-
  DERIVED. GIVEN WITH THE SEED: THE CARDS: each row of YtnmjaddhbecopaaGreatDoorRows.lean that lists a variable, with what it lists TIED to the program's text (the seventh form; the later family's looks); each row that meets fmt, with fmt's text TOLD by the authors' own Lean function (tested against real Go, not proved from fmt's source: count such statements apart). THE CARD IS WHAT COUNTS. Prove the row's statement (the work); the ties are given (YtnmjaddhbecopaaGreatDoorTie.lean); close each card by the builder's one call (the guide's Derived/Test/ToyasCard.lean, 'card_holds'). Laid BY PROGRAM, IN A SANDBOX (cutbox-door.mjs). By AI agents, Wed Nov 11 2026. No macro, syntax, notation, axiom, sorry.
-/
import Derived.Test.YtnmjaddhbecopaaGreatDoorRows
import GoSem.ClaimSeven
namespace Go.Proofs.YtnmjaddhbecopaaGreatDoor
namespace Rows

/-- THE TIED CARD OF 'attestlaw10.PledgeMixes'. -/
def pledgeMixesCard : Claim7 := { stood := { row := pledgeMixesRow, standIns := [], harness := (true, "eb8420a446bff063efc18396589975277cb28373f7ff78aa4ec0fd3e84623dc1"), looks := true }, kinds := [], alts := [], laidByText := true, laidKinds := [.handle], laidTests := true, laidLooks := .later }
def PledgeMixesCardSaid : Prop := Claim7.holds Tryz.pinned (.plain (OpenSpec.ofChange pledgeMixesSpec)) pledgeMixesCard

/-- THE TIED CARD OF 'attestlaw8.WholeComposes'. -/
def wholeComposesCard : Claim7 := { stood := { row := wholeComposesRow, standIns := [], harness := (true, "eb8420a446bff063efc18396589975277cb28373f7ff78aa4ec0fd3e84623dc1"), looks := true }, kinds := [], alts := [], laidByText := true, laidKinds := [.handle], laidTests := true, laidLooks := .later }
def WholeComposesCardSaid : Prop := Claim7.holds Tryz.pinned (.plain (OpenSpec.ofChange wholeComposesSpec)) wholeComposesCard

/-- THE TIED CARD OF 'attestlaw10.GatesMakes'. -/
def gatesMakesCard : Claim7 := { stood := { row := gatesMakesRow, standIns := [], harness := (true, "eb8420a446bff063efc18396589975277cb28373f7ff78aa4ec0fd3e84623dc1"), looks := true }, kinds := [], alts := [], laidByText := true, laidKinds := [.handle], laidTests := true, laidLooks := .later }
def GatesMakesCardSaid : Prop := Claim7.holds Tryz.pinned (.plain (OpenSpec.ofChange gatesMakesSpec)) gatesMakesCard

/-- THE TIED CARD OF 'attestlaw10.GatesChecks'. -/
def gatesChecksCard : Claim7 := { stood := { row := gatesChecksRow, standIns := [], harness := (true, "eb8420a446bff063efc18396589975277cb28373f7ff78aa4ec0fd3e84623dc1"), looks := true }, kinds := [], alts := [], laidByText := true, laidKinds := [.handle], laidTests := true, laidLooks := .later }
def GatesChecksCardSaid : Prop := Claim7.holds Tryz.pinned (.plain (OpenSpec.ofChange gatesChecksSpec)) gatesChecksCard

/-- THE TIED CARD OF 'attestlaw10.GatesTrue'. -/
def gatesTrueCard : Claim7 := { stood := { row := gatesTrueRow, standIns := [], harness := (true, "eb8420a446bff063efc18396589975277cb28373f7ff78aa4ec0fd3e84623dc1"), looks := true }, kinds := [], alts := [], laidByText := true, laidKinds := [.handle], laidTests := true, laidLooks := .later }
def GatesTrueCardSaid : Prop := Claim7.holds Tryz.pinned (.plain (OpenSpec.ofChange gatesTrueSpec)) gatesTrueCard

/-- THE TIED CARD OF 'attestlaw7.RulesSound'. -/
def rulesSoundCard : Claim7 := { stood := { row := rulesSoundRow, standIns := [], harness := (true, "eb8420a446bff063efc18396589975277cb28373f7ff78aa4ec0fd3e84623dc1"), looks := true }, kinds := [], alts := [], laidByText := true, laidKinds := [.handle], laidTests := true, laidLooks := .later }
def RulesSoundCardSaid : Prop := Claim7.holds Tryz.pinned (.plain (OpenSpec.ofChange rulesSoundSpec)) rulesSoundCard

/-- THE SECOND FORM's CARD OF 'attestlaw10.PledgeMixes'. -/
def pledgeMixesUptoCard : Claim7 := { stood := { row := pledgeMixesUptoRow, standIns := [], harness := (true, "eb8420a446bff063efc18396589975277cb28373f7ff78aa4ec0fd3e84623dc1"), looks := true }, kinds := [], alts := [], laidByText := true, laidKinds := [.handle], laidTests := true, laidLooks := .later }
def PledgeMixesUptoCardSaid : Prop := Claim7.holds Tryz.pinned (.plain (OpenSpec.upto pledgeMixesSpec)) pledgeMixesUptoCard

/-- THE SECOND FORM's CARD OF 'attestlaw8.WholeComposes'. -/
def wholeComposesUptoCard : Claim7 := { stood := { row := wholeComposesUptoRow, standIns := [], harness := (true, "eb8420a446bff063efc18396589975277cb28373f7ff78aa4ec0fd3e84623dc1"), looks := true }, kinds := [], alts := [], laidByText := true, laidKinds := [.handle], laidTests := true, laidLooks := .later }
def WholeComposesUptoCardSaid : Prop := Claim7.holds Tryz.pinned (.plain (OpenSpec.upto wholeComposesSpec)) wholeComposesUptoCard

/-- THE SECOND FORM's CARD OF 'attestlaw10.GatesMakes'. -/
def gatesMakesUptoCard : Claim7 := { stood := { row := gatesMakesUptoRow, standIns := [], harness := (true, "eb8420a446bff063efc18396589975277cb28373f7ff78aa4ec0fd3e84623dc1"), looks := true }, kinds := [], alts := [], laidByText := true, laidKinds := [.handle], laidTests := true, laidLooks := .later }
def GatesMakesUptoCardSaid : Prop := Claim7.holds Tryz.pinned (.plain (OpenSpec.upto gatesMakesSpec)) gatesMakesUptoCard

/-- THE SECOND FORM's CARD OF 'attestlaw10.GatesChecks'. -/
def gatesChecksUptoCard : Claim7 := { stood := { row := gatesChecksUptoRow, standIns := [], harness := (true, "eb8420a446bff063efc18396589975277cb28373f7ff78aa4ec0fd3e84623dc1"), looks := true }, kinds := [], alts := [], laidByText := true, laidKinds := [.handle], laidTests := true, laidLooks := .later }
def GatesChecksUptoCardSaid : Prop := Claim7.holds Tryz.pinned (.plain (OpenSpec.upto gatesChecksSpec)) gatesChecksUptoCard

/-- THE SECOND FORM's CARD OF 'attestlaw10.GatesTrue'. -/
def gatesTrueUptoCard : Claim7 := { stood := { row := gatesTrueUptoRow, standIns := [], harness := (true, "eb8420a446bff063efc18396589975277cb28373f7ff78aa4ec0fd3e84623dc1"), looks := true }, kinds := [], alts := [], laidByText := true, laidKinds := [.handle], laidTests := true, laidLooks := .later }
def GatesTrueUptoCardSaid : Prop := Claim7.holds Tryz.pinned (.plain (OpenSpec.upto gatesTrueSpec)) gatesTrueUptoCard

/-- THE SECOND FORM's CARD OF 'attestlaw7.RulesSound'. -/
def rulesSoundUptoCard : Claim7 := { stood := { row := rulesSoundUptoRow, standIns := [], harness := (true, "eb8420a446bff063efc18396589975277cb28373f7ff78aa4ec0fd3e84623dc1"), looks := true }, kinds := [], alts := [], laidByText := true, laidKinds := [.handle], laidTests := true, laidLooks := .later }
def RulesSoundUptoCardSaid : Prop := Claim7.holds Tryz.pinned (.plain (OpenSpec.upto rulesSoundSpec)) rulesSoundUptoCard
end Rows
end Go.Proofs.YtnmjaddhbecopaaGreatDoor
