/-
  DERIVED. GIVEN WITH THE SEED: THE CARDS: each row of YtainhfnanamobaaGreatDoorRows.lean that lists a variable, with what it lists TIED to the program's text (the seventh form; the later family's looks); each row that meets fmt, with fmt's text TOLD by the authors' own Lean function (tested against real Go, not proved from fmt's source: count such statements apart). THE CARD IS WHAT COUNTS. Prove the row's statement (the work); the ties are given (YtainhfnanamobaaGreatDoorTie.lean); close each card by the builder's one call (the guide's Derived/Test/ToyasCard.lean, 'card_holds'). Laid BY PROGRAM, IN A SANDBOX (cutbox-door.mjs). By AI agents, Wed Nov 11 2026. No macro, syntax, notation, axiom, sorry.
-/
import Derived.Test.YtainhfnanamobaaGreatDoorRows
import GoSem.ClaimSeven
namespace Go.Proofs.YtainhfnanamobaaGreatDoor
namespace Rows

/-- THE TIED CARD OF 'attestlaw8.WholeComposes'. -/
def wholeComposesCard : Claim7 := { stood := { row := wholeComposesRow, standIns := [], harness := (true, "55aa4f5e8fbca2fd22423896f375055fe62bc42a21a5d9f1a37a5939bc75208b"), looks := true }, kinds := [], alts := [], laidByText := true, laidKinds := [.handle], laidTests := true, laidLooks := .later }
def WholeComposesCardSaid : Prop := Claim7.holds Tryz.pinned (.plain (OpenSpec.ofChange wholeComposesSpec)) wholeComposesCard

/-- THE TIED CARD OF 'attestlaw7.RulesTables'. -/
def rulesTablesCard : Claim7 := { stood := { row := rulesTablesRow, standIns := [], harness := (true, "55aa4f5e8fbca2fd22423896f375055fe62bc42a21a5d9f1a37a5939bc75208b"), looks := true }, kinds := [], alts := [], laidByText := true, laidKinds := [.handle], laidTests := true, laidLooks := .later }
def RulesTablesCardSaid : Prop := Claim7.holds Tryz.pinned (.plain (OpenSpec.ofChange rulesTablesSpec)) rulesTablesCard

/-- THE TIED CARD OF 'attestlaw7.RulesSound'. -/
def rulesSoundCard : Claim7 := { stood := { row := rulesSoundRow, standIns := [], harness := (true, "55aa4f5e8fbca2fd22423896f375055fe62bc42a21a5d9f1a37a5939bc75208b"), looks := true }, kinds := [], alts := [], laidByText := true, laidKinds := [.handle], laidTests := true, laidLooks := .later }
def RulesSoundCardSaid : Prop := Claim7.holds Tryz.pinned (.plain (OpenSpec.ofChange rulesSoundSpec)) rulesSoundCard

/-- THE SECOND FORM's CARD OF 'attestlaw8.WholeComposes'. -/
def wholeComposesUptoCard : Claim7 := { stood := { row := wholeComposesUptoRow, standIns := [], harness := (true, "55aa4f5e8fbca2fd22423896f375055fe62bc42a21a5d9f1a37a5939bc75208b"), looks := true }, kinds := [], alts := [], laidByText := true, laidKinds := [.handle], laidTests := true, laidLooks := .later }
def WholeComposesUptoCardSaid : Prop := Claim7.holds Tryz.pinned (.plain (OpenSpec.upto wholeComposesSpec)) wholeComposesUptoCard

/-- THE SECOND FORM's CARD OF 'attestlaw7.RulesTables'. -/
def rulesTablesUptoCard : Claim7 := { stood := { row := rulesTablesUptoRow, standIns := [], harness := (true, "55aa4f5e8fbca2fd22423896f375055fe62bc42a21a5d9f1a37a5939bc75208b"), looks := true }, kinds := [], alts := [], laidByText := true, laidKinds := [.handle], laidTests := true, laidLooks := .later }
def RulesTablesUptoCardSaid : Prop := Claim7.holds Tryz.pinned (.plain (OpenSpec.upto rulesTablesSpec)) rulesTablesUptoCard

/-- THE SECOND FORM's CARD OF 'attestlaw7.RulesSound'. -/
def rulesSoundUptoCard : Claim7 := { stood := { row := rulesSoundUptoRow, standIns := [], harness := (true, "55aa4f5e8fbca2fd22423896f375055fe62bc42a21a5d9f1a37a5939bc75208b"), looks := true }, kinds := [], alts := [], laidByText := true, laidKinds := [.handle], laidTests := true, laidLooks := .later }
def RulesSoundUptoCardSaid : Prop := Claim7.holds Tryz.pinned (.plain (OpenSpec.upto rulesSoundSpec)) rulesSoundUptoCard
end Rows
end Go.Proofs.YtainhfnanamobaaGreatDoor
