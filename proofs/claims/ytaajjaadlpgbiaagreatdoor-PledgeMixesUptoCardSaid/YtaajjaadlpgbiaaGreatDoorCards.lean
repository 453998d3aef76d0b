/-
  DERIVED. GIVEN WITH THE SEED: THE CARDS: each row of YtaajjaadlpgbiaaGreatDoorRows.lean that lists a variable, with what it lists TIED to the program's text (the seventh form; the later family's looks); each row that meets fmt, with fmt's text TOLD by the authors' own Lean function (tested against real Go, not proved from fmt's source: count such statements apart). THE CARD IS WHAT COUNTS. Prove the row's statement (the work); the ties are given (YtaajjaadlpgbiaaGreatDoorTie.lean); close each card by the builder's one call (the guide's Derived/Test/ToyasCard.lean, 'card_holds'). Laid BY PROGRAM, IN A SANDBOX (cutbox-door.mjs). By AI agents, Wed Nov 11 2026. No macro, syntax, notation, axiom, sorry.
-/
import Derived.Test.YtaajjaadlpgbiaaGreatDoorRows
import GoSem.ClaimSeven
namespace Go.Proofs.YtaajjaadlpgbiaaGreatDoor
namespace Rows

/-- THE TIED CARD OF 'attestlaw10.PledgeMixes'. -/
def pledgeMixesCard : Claim7 := { stood := { row := pledgeMixesRow, standIns := [], harness := (true, "0706260cade7f9076ccceadd090edea97ffaf6b6fffb941660c7a58dbe8a57ee"), looks := true }, kinds := [], alts := [], laidByText := true, laidKinds := [.handle], laidTests := true, laidLooks := .later }
def PledgeMixesCardSaid : Prop := Claim7.holds Tryz.pinned (.plain (OpenSpec.ofChange pledgeMixesSpec)) pledgeMixesCard

/-- THE TIED CARD OF 'attestlaw10.GatesChecks'. -/
def gatesChecksCard : Claim7 := { stood := { row := gatesChecksRow, standIns := [], harness := (true, "0706260cade7f9076ccceadd090edea97ffaf6b6fffb941660c7a58dbe8a57ee"), looks := true }, kinds := [], alts := [], laidByText := true, laidKinds := [.handle], laidTests := true, laidLooks := .later }
def GatesChecksCardSaid : Prop := Claim7.holds Tryz.pinned (.plain (OpenSpec.ofChange gatesChecksSpec)) gatesChecksCard

/-- THE TIED CARD OF 'attestlaw10.GatesTrue'. -/
def gatesTrueCard : Claim7 := { stood := { row := gatesTrueRow, standIns := [], harness := (true, "0706260cade7f9076ccceadd090edea97ffaf6b6fffb941660c7a58dbe8a57ee"), looks := true }, kinds := [], alts := [], laidByText := true, laidKinds := [.handle], laidTests := true, laidLooks := .later }
def GatesTrueCardSaid : Prop := Claim7.holds Tryz.pinned (.plain (OpenSpec.ofChange gatesTrueSpec)) gatesTrueCard

/-- THE SECOND FORM's CARD OF 'attestlaw10.PledgeMixes'. -/
def pledgeMixesUptoCard : Claim7 := { stood := { row := pledgeMixesUptoRow, standIns := [], harness := (true, "0706260cade7f9076ccceadd090edea97ffaf6b6fffb941660c7a58dbe8a57ee"), looks := true }, kinds := [], alts := [], laidByText := true, laidKinds := [.handle], laidTests := true, laidLooks := .later }
def PledgeMixesUptoCardSaid : Prop := Claim7.holds Tryz.pinned (.plain (OpenSpec.upto pledgeMixesSpec)) pledgeMixesUptoCard

/-- THE SECOND FORM's CARD OF 'attestlaw10.GatesChecks'. -/
def gatesChecksUptoCard : Claim7 := { stood := { row := gatesChecksUptoRow, standIns := [], harness := (true, "0706260cade7f9076ccceadd090edea97ffaf6b6fffb941660c7a58dbe8a57ee"), looks := true }, kinds := [], alts := [], laidByText := true, laidKinds := [.handle], laidTests := true, laidLooks := .later }
def GatesChecksUptoCardSaid : Prop := Claim7.holds Tryz.pinned (.plain (OpenSpec.upto gatesChecksSpec)) gatesChecksUptoCard

/-- THE SECOND FORM's CARD OF 'attestlaw10.GatesTrue'. -/
def gatesTrueUptoCard : Claim7 := { stood := { row := gatesTrueUptoRow, standIns := [], harness := (true, "0706260cade7f9076ccceadd090edea97ffaf6b6fffb941660c7a58dbe8a57ee"), looks := true }, kinds := [], alts := [], laidByText := true, laidKinds := [.handle], laidTests := true, laidLooks := .later }
def GatesTrueUptoCardSaid : Prop := Claim7.holds Tryz.pinned (.plain (OpenSpec.upto gatesTrueSpec)) gatesTrueUptoCard
end Rows
end Go.Proofs.YtaajjaadlpgbiaaGreatDoor
