/-
  DERIVED. GIVEN WITH THE SEED: THE CARDS: each row of YtgnomhbbbcfehaaGreatDoorRows.lean that lists a variable, with what it lists TIED to the program's text (the seventh form; the later family's looks); each row that meets fmt, with fmt's text TOLD by the authors' own Lean function (tested against real Go, not proved from fmt's source: count such statements apart). THE CARD IS WHAT COUNTS. Prove the row's statement (the work); the ties are given (YtgnomhbbbcfehaaGreatDoorTie.lean); close each card by the builder's one call (the guide's Derived/Test/ToyasCard.lean, 'card_holds'). Laid BY PROGRAM, IN A SANDBOX (cutbox-door.mjs). By AI agents, Wed Nov 11 2026. No macro, syntax, notation, axiom, sorry.
-/
import Derived.Test.YtgnomhbbbcfehaaGreatDoorRows
import GoSem.ClaimSeven
namespace Go.Proofs.YtgnomhbbbcfehaaGreatDoor
namespace Rows

/-- THE TIED CARD OF 'attestlaw6.SourceEvals'. -/
def sourceEvalsCard : Claim7 := { stood := { row := sourceEvalsRow, standIns := [], harness := (true, "2f3c6a39b39381acb5ec48eb51a5f2d0c14d2200115bfd201b29621c7a9efb8b"), looks := true }, kinds := [], alts := [], laidByText := true, laidKinds := [.data, .data, .data, .data, .handle, .sentinel, .sentinel, .pinned], laidTests := true, laidLooks := .later }
def SourceEvalsCardSaid : Prop := Claim7.holds Tryz.pinned (.plain (OpenSpec.ofChange sourceEvalsSpec)) sourceEvalsCard

/-- THE TIED CARD OF 'attestlaw6.SourceParses'. -/
def sourceParsesCard : Claim7 := { stood := { row := sourceParsesRow, standIns := [], harness := (true, "2f3c6a39b39381acb5ec48eb51a5f2d0c14d2200115bfd201b29621c7a9efb8b"), looks := true }, kinds := [], alts := [], laidByText := true, laidKinds := [.data, .data, .data, .data, .handle, .sentinel, .sentinel, .pinned], laidTests := true, laidLooks := .later }
def SourceParsesCardSaid : Prop := Claim7.holds Tryz.pinned (.plain (OpenSpec.ofChange sourceParsesSpec)) sourceParsesCard

/-- THE TIED CARD OF 'attestlaw6.SourceFuel'. -/
def sourceFuelCard : Claim7 := { stood := { row := sourceFuelRow, standIns := [], harness := (true, "2f3c6a39b39381acb5ec48eb51a5f2d0c14d2200115bfd201b29621c7a9efb8b"), looks := true }, kinds := [], alts := [], laidByText := true, laidKinds := [.data, .data, .data, .data, .handle, .sentinel, .sentinel, .pinned], laidTests := true, laidLooks := .later }
def SourceFuelCardSaid : Prop := Claim7.holds Tryz.pinned (.plain (OpenSpec.ofChange sourceFuelSpec)) sourceFuelCard

/-- THE SECOND FORM's CARD OF 'attestlaw6.SourceEvals'. -/
def sourceEvalsUptoCard : Claim7 := { stood := { row := sourceEvalsUptoRow, standIns := [], harness := (true, "2f3c6a39b39381acb5ec48eb51a5f2d0c14d2200115bfd201b29621c7a9efb8b"), looks := true }, kinds := [], alts := [], laidByText := true, laidKinds := [.data, .data, .data, .data, .handle, .sentinel, .sentinel, .pinned], laidTests := true, laidLooks := .later }
def SourceEvalsUptoCardSaid : Prop := Claim7.holds Tryz.pinned (.plain (OpenSpec.upto sourceEvalsSpec)) sourceEvalsUptoCard

/-- THE SECOND FORM's CARD OF 'attestlaw6.SourceParses'. -/
def sourceParsesUptoCard : Claim7 := { stood := { row := sourceParsesUptoRow, standIns := [], harness := (true, "2f3c6a39b39381acb5ec48eb51a5f2d0c14d2200115bfd201b29621c7a9efb8b"), looks := true }, kinds := [], alts := [], laidByText := true, laidKinds := [.data, .data, .data, .data, .handle, .sentinel, .sentinel, .pinned], laidTests := true, laidLooks := .later }
def SourceParsesUptoCardSaid : Prop := Claim7.holds Tryz.pinned (.plain (OpenSpec.upto sourceParsesSpec)) sourceParsesUptoCard

/-- THE SECOND FORM's CARD OF 'attestlaw6.SourceFuel'. -/
def sourceFuelUptoCard : Claim7 := { stood := { row := sourceFuelUptoRow, standIns := [], harness := (true, "2f3c6a39b39381acb5ec48eb51a5f2d0c14d2200115bfd201b29621c7a9efb8b"), looks := true }, kinds := [], alts := [], laidByText := true, laidKinds := [.data, .data, .data, .data, .handle, .sentinel, .sentinel, .pinned], laidTests := true, laidLooks := .later }
def SourceFuelUptoCardSaid : Prop := Claim7.holds Tryz.pinned (.plain (OpenSpec.upto sourceFuelSpec)) sourceFuelUptoCard
end Rows
end Go.Proofs.YtgnomhbbbcfehaaGreatDoor
