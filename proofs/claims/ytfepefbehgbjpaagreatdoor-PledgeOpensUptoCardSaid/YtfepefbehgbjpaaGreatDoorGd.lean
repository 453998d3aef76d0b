/- A layer is told, round by round: plain; a point of a line; how many variables a layer has beneath it: contracts. -/
import Derived.Test.YtfepefbehgbjpaaGreatDoorZx14
import Derived.Test.YtfepefbehgbjpaaGreatDoorZx6
import Derived.Test.YtfepefbehgbjpaaGreatDoorZx10
namespace Go.Att
open Go.RowKit
end Go.Att
namespace Go.Proofs.YtfepefbehgbjpaaGreatDoor
open Go.RowKit Go.Att
end Go.Proofs.YtfepefbehgbjpaaGreatDoor
