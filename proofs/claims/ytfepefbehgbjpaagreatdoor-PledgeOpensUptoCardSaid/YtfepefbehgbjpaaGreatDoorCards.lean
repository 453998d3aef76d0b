/-
  DERIVED. GIVEN WITH THE SEED: THE CARDS: each row of YtfepefbehgbjpaaGreatDoorRows.lean that lists a variable, with what it lists TIED to the program's text (the seventh form; the later family's looks); each row that meets fmt, with fmt's text TOLD by the authors' own Lean function (tested against real Go, not proved from fmt's source: count such statements apart). THE CARD IS WHAT COUNTS. Prove the row's statement (the work); the ties are given (YtfepefbehgbjpaaGreatDoorTie.lean); close each card by the builder's one call (the guide's Derived/Test/ToyasCard.lean, 'card_holds'). Laid BY PROGRAM, IN A SANDBOX (cutbox-door.mjs). By AI agents, Wed Nov 11 2026. No macro, syntax, notation, axiom, sorry.
-/
import Derived.Test.YtfepefbehgbjpaaGreatDoorRows
import GoSem.ClaimSeven
namespace Go.Proofs.YtfepefbehgbjpaaGreatDoor
namespace Rows

/-- THE TIED CARD OF 'attestlaw10.PledgeOpens'. -/
def pledgeOpensCard : Claim7 := { stood := { row := pledgeOpensRow, standIns := [], harness := (true, "198b65a5c1134106ceb4df790249df420082044cb02fa370e9a778336c43e75f"), looks := true }, kinds := [], alts := [], laidByText := true, laidKinds := [.handle], laidTests := true, laidLooks := .later }
def PledgeOpensCardSaid : Prop := Claim7.holds Tryz.pinned (.plain (OpenSpec.ofChange pledgeOpensSpec)) pledgeOpensCard

/-- THE SECOND FORM's CARD OF 'attestlaw10.PledgeOpens'. -/
def pledgeOpensUptoCard : Claim7 := { stood := { row := pledgeOpensUptoRow, standIns := [], harness := (true, "198b65a5c1134106ceb4df790249df420082044cb02fa370e9a778336c43e75f"), looks := true }, kinds := [], alts := [], laidByText := true, laidKinds := [.handle], laidTests := true, laidLooks := .later }
def PledgeOpensUptoCardSaid : Prop := Claim7.holds Tryz.pinned (.plain (OpenSpec.upto pledgeOpensSpec)) pledgeOpensUptoCard
end Rows
end Go.Proofs.YtfepefbehgbjpaaGreatDoor
