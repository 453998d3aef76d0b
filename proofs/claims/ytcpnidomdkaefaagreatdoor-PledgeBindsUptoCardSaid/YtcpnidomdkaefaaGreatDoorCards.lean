/-
  DERIVED. GIVEN WITH THE SEED: THE CARDS: each row of YtcpnidomdkaefaaGreatDoorRows.lean that lists a variable, with what it lists TIED to the program's text (the seventh form; the later family's looks); each row that meets fmt, with fmt's text TOLD by the authors' own Lean function (tested against real Go, not proved from fmt's source: count such statements apart). THE CARD IS WHAT COUNTS. Prove the row's statement (the work); the ties are given (YtcpnidomdkaefaaGreatDoorTie.lean); close each card by the builder's one call (the guide's Derived/Test/ToyasCard.lean, 'card_holds'). Laid BY PROGRAM, IN A SANDBOX (cutbox-door.mjs). By AI agents, Wed Nov 11 2026. No macro, syntax, notation, axiom, sorry.
-/
import Derived.Test.YtcpnidomdkaefaaGreatDoorRows
import GoSem.ClaimSeven
namespace Go.Proofs.YtcpnidomdkaefaaGreatDoor
namespace Rows

/-- THE TIED CARD OF 'attestlaw10.PledgeChecks'. -/
def pledgeChecksCard : Claim7 := { stood := { row := pledgeChecksRow, standIns := [], harness := (true, "f379a5a427740ce9fd877b90ab2ceeeea21d97b3d2e047a1e31859b88ac1e373"), looks := true }, kinds := [], alts := [], laidByText := true, laidKinds := [.handle], laidTests := true, laidLooks := .later }
def PledgeChecksCardSaid : Prop := Claim7.holds Tryz.pinned (.plain (OpenSpec.ofChange pledgeChecksSpec)) pledgeChecksCard

/-- THE TIED CARD OF 'attestlaw10.PledgeBinds'. -/
def pledgeBindsCard : Claim7 := { stood := { row := pledgeBindsRow, standIns := [], harness := (true, "f379a5a427740ce9fd877b90ab2ceeeea21d97b3d2e047a1e31859b88ac1e373"), looks := true }, kinds := [], alts := [], laidByText := true, laidKinds := [.handle], laidTests := true, laidLooks := .later }
def PledgeBindsCardSaid : Prop := Claim7.holds Tryz.pinned (.plain (OpenSpec.ofChange pledgeBindsSpec)) pledgeBindsCard

/-- THE TIED CARD OF 'attestlaw10.PledgeOpens'. -/
def pledgeOpensCard : Claim7 := { stood := { row := pledgeOpensRow, standIns := [], harness := (true, "f379a5a427740ce9fd877b90ab2ceeeea21d97b3d2e047a1e31859b88ac1e373"), looks := true }, kinds := [], alts := [], laidByText := true, laidKinds := [.handle], laidTests := true, laidLooks := .later }
def PledgeOpensCardSaid : Prop := Claim7.holds Tryz.pinned (.plain (OpenSpec.ofChange pledgeOpensSpec)) pledgeOpensCard

/-- THE SECOND FORM's CARD OF 'attestlaw10.PledgeChecks'. -/
def pledgeChecksUptoCard : Claim7 := { stood := { row := pledgeChecksUptoRow, standIns := [], harness := (true, "f379a5a427740ce9fd877b90ab2ceeeea21d97b3d2e047a1e31859b88ac1e373"), looks := true }, kinds := [], alts := [], laidByText := true, laidKinds := [.handle], laidTests := true, laidLooks := .later }
def PledgeChecksUptoCardSaid : Prop := Claim7.holds Tryz.pinned (.plain (OpenSpec.upto pledgeChecksSpec)) pledgeChecksUptoCard

/-- THE SECOND FORM's CARD OF 'attestlaw10.PledgeBinds'. -/
def pledgeBindsUptoCard : Claim7 := { stood := { row := pledgeBindsUptoRow, standIns := [], harness := (true, "f379a5a427740ce9fd877b90ab2ceeeea21d97b3d2e047a1e31859b88ac1e373"), looks := true }, kinds := [], alts := [], laidByText := true, laidKinds := [.handle], laidTests := true, laidLooks := .later }
def PledgeBindsUptoCardSaid : Prop := Claim7.holds Tryz.pinned (.plain (OpenSpec.upto pledgeBindsSpec)) pledgeBindsUptoCard

/-- THE SECOND FORM's CARD OF 'attestlaw10.PledgeOpens'. -/
def pledgeOpensUptoCard : Claim7 := { stood := { row := pledgeOpensUptoRow, standIns := [], harness := (true, "f379a5a427740ce9fd877b90ab2ceeeea21d97b3d2e047a1e31859b88ac1e373"), looks := true }, kinds := [], alts := [], laidByText := true, laidKinds := [.handle], laidTests := true, laidLooks := .later }
def PledgeOpensUptoCardSaid : Prop := Claim7.holds Tryz.pinned (.plain (OpenSpec.upto pledgeOpensSpec)) pledgeOpensUptoCard
end Rows
end Go.Proofs.YtcpnidomdkaefaaGreatDoor
