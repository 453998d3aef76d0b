/-
  DERIVED. GIVEN WITH THE SEED: THE CARDS: each row of YtejkepihicphlaaGreatDoorRows.lean that lists a variable, with what it lists TIED to the program's text (the seventh form; the later family's looks); each row that meets fmt, with fmt's text TOLD by the authors' own Lean function (tested against real Go, not proved from fmt's source: count such statements apart). THE CARD IS WHAT COUNTS. Prove the row's statement (the work); the ties are given (YtejkepihicphlaaGreatDoorTie.lean); close each card by the builder's one call (the guide's Derived/Test/ToyasCard.lean, 'card_holds'). Laid BY PROGRAM, IN A SANDBOX (cutbox-door.mjs). By AI agents, Wed Nov 11 2026. No macro, syntax, notation, axiom, sorry.
-/
import Derived.Test.YtejkepihicphlaaGreatDoorRows
import GoSem.ClaimSeven
namespace Go.Proofs.YtejkepihicphlaaGreatDoor
namespace Rows

/-- THE TIED CARD OF 'attestlaw6.SourceAgain'. -/
def sourceAgainCard : Claim7 := { stood := { row := sourceAgainRow, standIns := [], harness := (true, "da80fca275a3afe489fdfbf94900c2859e725a597cb6c103370bb593554fd597"), looks := true }, kinds := [], alts := [], laidByText := true, laidKinds := [.data, .data, .data, .data, .sentinel, .sentinel, .pinned], laidTests := true, laidLooks := .later }
def SourceAgainCardSaid : Prop := Claim7.holds Tryz.pinned (.plain (OpenSpec.ofChange sourceAgainSpec)) sourceAgainCard

/-- THE TIED CARD OF 'attestlaw10.AsmParses'. -/
def asmParsesCard : Claim7 := { stood := { row := asmParsesRow, standIns := [], harness := (true, "da80fca275a3afe489fdfbf94900c2859e725a597cb6c103370bb593554fd597"), looks := true }, kinds := [], alts := [], laidByText := true, laidKinds := [.data, .data, .data, .data, .handle, .sentinel, .sentinel, .widerDeep, .pinned], laidTests := true, laidLooks := .later }
def AsmParsesCardSaid : Prop := Claim7.holds Tryz.pinned (.plain (OpenSpec.ofChange asmParsesSpec)) asmParsesCard

/-- THE TIED CARD OF 'attestlaw6.SourceEvals'. -/
def sourceEvalsCard : Claim7 := { stood := { row := sourceEvalsRow, standIns := [], harness := (true, "da80fca275a3afe489fdfbf94900c2859e725a597cb6c103370bb593554fd597"), looks := true }, kinds := [], alts := [], laidByText := true, laidKinds := [.data, .data, .data, .data, .handle, .sentinel, .sentinel, .pinned], laidTests := true, laidLooks := .later }
def SourceEvalsCardSaid : Prop := Claim7.holds Tryz.pinned (.plain (OpenSpec.ofChange sourceEvalsSpec)) sourceEvalsCard

/-- THE TIED CARD OF 'attestlaw6.SourceParses'. -/
def sourceParsesCard : Claim7 := { stood := { row := sourceParsesRow, standIns := [], harness := (true, "da80fca275a3afe489fdfbf94900c2859e725a597cb6c103370bb593554fd597"), looks := true }, kinds := [], alts := [], laidByText := true, laidKinds := [.data, .data, .data, .data, .handle, .sentinel, .sentinel, .pinned], laidTests := true, laidLooks := .later }
def SourceParsesCardSaid : Prop := Claim7.holds Tryz.pinned (.plain (OpenSpec.ofChange sourceParsesSpec)) sourceParsesCard

/-- THE SECOND FORM's CARD OF 'attestlaw6.SourceAgain'. -/
def sourceAgainUptoCard : Claim7 := { stood := { row := sourceAgainUptoRow, standIns := [], harness := (true, "da80fca275a3afe489fdfbf94900c2859e725a597cb6c103370bb593554fd597"), looks := true }, kinds := [], alts := [], laidByText := true, laidKinds := [.data, .data, .data, .data, .sentinel, .sentinel, .pinned], laidTests := true, laidLooks := .later }
def SourceAgainUptoCardSaid : Prop := Claim7.holds Tryz.pinned (.plain (OpenSpec.upto sourceAgainSpec)) sourceAgainUptoCard

/-- THE SECOND FORM's CARD OF 'attestlaw10.AsmParses'. -/
def asmParsesUptoCard : Claim7 := { stood := { row := asmParsesUptoRow, standIns := [], harness := (true, "da80fca275a3afe489fdfbf94900c2859e725a597cb6c103370bb593554fd597"), looks := true }, kinds := [], alts := [], laidByText := true, laidKinds := [.data, .data, .data, .data, .handle, .sentinel, .sentinel, .widerDeep, .pinned], laidTests := true, laidLooks := .later }
def AsmParsesUptoCardSaid : Prop := Claim7.holds Tryz.pinned (.plain (OpenSpec.upto asmParsesSpec)) asmParsesUptoCard

/-- THE SECOND FORM's CARD OF 'attestlaw6.SourceEvals'. -/
def sourceEvalsUptoCard : Claim7 := { stood := { row := sourceEvalsUptoRow, standIns := [], harness := (true, "da80fca275a3afe489fdfbf94900c2859e725a597cb6c103370bb593554fd597"), looks := true }, kinds := [], alts := [], laidByText := true, laidKinds := [.data, .data, .data, .data, .handle, .sentinel, .sentinel, .pinned], laidTests := true, laidLooks := .later }
def SourceEvalsUptoCardSaid : Prop := Claim7.holds Tryz.pinned (.plain (OpenSpec.upto sourceEvalsSpec)) sourceEvalsUptoCard

/-- THE SECOND FORM's CARD OF 'attestlaw6.SourceParses'. -/
def sourceParsesUptoCard : Claim7 := { stood := { row := sourceParsesUptoRow, standIns := [], harness := (true, "da80fca275a3afe489fdfbf94900c2859e725a597cb6c103370bb593554fd597"), looks := true }, kinds := [], alts := [], laidByText := true, laidKinds := [.data, .data, .data, .data, .handle, .sentinel, .sentinel, .pinned], laidTests := true, laidLooks := .later }
def SourceParsesUptoCardSaid : Prop := Claim7.holds Tryz.pinned (.plain (OpenSpec.upto sourceParsesSpec)) sourceParsesUptoCard
end Rows
end Go.Proofs.YtejkepihicphlaaGreatDoor
