/- Whether an opening shows rows of a tree, the document's side: attestref3.Check: contract. -/
import Derived.Test.YtfepefbehgbjpaaGreatDoorZx16
namespace Go.Proofs.YtfepefbehgbjpaaGreatDoor
open Go.RowKit Go.Att
end Go.Proofs.YtfepefbehgbjpaaGreatDoor
