/-
  NARROWER THAN 'FOR EVERY INPUT', by the rows' own cells (each row's printed sentence says how): RulesSame: laid · WholeBytes: laid · WholeBatches: laid · MachineWalks: laid · GatesValues: laid · GatesParts: laid · PledgeKeeps: laid · GatesLayer: laid · GatesCatches: laid · RulesBroken: laid.
  DERIVED. THE GIVEN ROWS OF THIS SEAT. 10 by the template 'for every input the law returns true; each argument reads behind the call as it read before'; 0 by the template 'total and deterministic' (their statements: YthjemncbphdomaaDoorTotals.lean).
  GIVEN WITH THE SEED: the statements are not yours to turn. If you find one false, say at which input.
  Laid BY PROGRAM, IN A SANDBOX (cutbox-rows.mjs): the forced cells as the released guide's own fill.sh prints them over the translation 85d63d94b95834d9… (all of the seat's roots in one cut). By AI agents, Wed Nov 11 2026. No macro, syntax, notation, axiom, sorry.
-/
import Derived.Test.YthjemncbphdomaaDoorChecked
import GoSem.Claim
import GoSem.ClaimJoined
import GoSem.ClaimMapViews
import Derived.JoinedTies
import Derived.KernelRfl
namespace Go.Proofs.YthjemncbphdomaaDoor
/- THE CELL 'sum', in the pinned program and in every row, IS THE sha256 OF THE DUMP (.gsa) THAT YthjemncbphdomaaDoorProg.lean LOADS. Nothing in Lean hashes anything: it is a label: what it is worth is what the hold of that sum in a sandbox is worth. -/
noncomputable def Tryd.pinned : Pinned := { name := "ythjemncbphdomaadoor", sum := "85d63d94b95834d9801346cadf7986c6adf738648f0c830385e1f1e956aa466f", checked := Tryd.checked }
namespace Rows
def none {H : Type} : Left H := { results := [], args := [] }

/- WHAT THE LISTED PACKAGE-LEVEL VARIABLES READ AS WHEN THE CALL BEGINS. Each datum BY PROGRAM (the guide's laid-datum.mjs) off the statement by which the dump's own 'gosem.cut.vars' lays the variable. In a bare row this is a premise. The card (YthjemncbphdomaaDoorCards.lean) ties it to the program's text. -/
def laid_errors_errorType {H : Type} : DataW H := .iface "internal/reflectlite.rtype" (.agg [.ptr (.lit (.string [101, 114, 114, 111, 114]))])

/-- 'attestlaw7.RulesSame': WHATEVER THE INPUT: true; the input reads as it did. -/
def rulesSameSpec : ChangeSpec := { name := "rulesSame", fn := fun _ => fun
  | [d1, d2, d3, d4, d5] => { results := [.lit (.bool true)], args := [d1, d2, d3, d4, d5] }
  | _ => none }
def rulesSameRow : OpenClaim := { program := "ythjemncbphdomaadoor", sum := "85d63d94b95834d9801346cadf7986c6adf738648f0c830385e1f1e956aa466f", func := "attest/attestlaw7.RulesSame", spec := "rulesSame", inPlace := ["internal/reflectlite.ValueOf", "(internal/reflectlite.Value).Type", "(internal/reflectlite.Value).IsNil", "internal/reflectlite.TypeOf", "(internal/reflectlite.Value).Elem", "(internal/reflectlite.Value).Set"], unfollowed := true, recurses := true, named := ["errors.errorType"], apart := false, laid := [("errors.errorType", laid_errors_errorType)] }
def RulesSameSaid : Prop := rulesSameRow.holds Tryd.pinned (OpenSpec.ofChange rulesSameSpec)

/-- ITS FALSE NEIGHBOUR: 'it returns false'. Refute it at one input. -/
def rulesSameWrong : ChangeSpec := { name := "rulesSame", fn := fun _ => fun
  | [d1, d2, d3, d4, d5] => { results := [.lit (.bool false)], args := [d1, d2, d3, d4, d5] }
  | _ => none }
def RulesSameWrongFalsely : Prop := rulesSameRow.holds Tryd.pinned (OpenSpec.ofChange rulesSameWrong)

/-- 'attestlaw8.WholeBytes': WHATEVER THE INPUT: true; the input reads as it did. -/
def wholeBytesSpec : ChangeSpec := { name := "wholeBytes", fn := fun _ => fun
  | [d1, d2] => { results := [.lit (.bool true)], args := [d1, d2] }
  | _ => none }
def wholeBytesRow : OpenClaim := { program := "ythjemncbphdomaadoor", sum := "85d63d94b95834d9801346cadf7986c6adf738648f0c830385e1f1e956aa466f", func := "attest/attestlaw8.WholeBytes", spec := "wholeBytes", inPlace := ["internal/reflectlite.ValueOf", "(internal/reflectlite.Value).Type", "(internal/reflectlite.Value).IsNil", "internal/reflectlite.TypeOf", "(internal/reflectlite.Value).Elem", "(internal/reflectlite.Value).Set"], unfollowed := true, recurses := true, named := ["errors.errorType"], apart := false, laid := [("errors.errorType", laid_errors_errorType)] }
def WholeBytesSaid : Prop := wholeBytesRow.holds Tryd.pinned (OpenSpec.ofChange wholeBytesSpec)

/-- ITS FALSE NEIGHBOUR: 'it returns false'. Refute it at one input. -/
def wholeBytesWrong : ChangeSpec := { name := "wholeBytes", fn := fun _ => fun
  | [d1, d2] => { results := [.lit (.bool false)], args := [d1, d2] }
  | _ => none }
def WholeBytesWrongFalsely : Prop := wholeBytesRow.holds Tryd.pinned (OpenSpec.ofChange wholeBytesWrong)

/-- 'attestlaw8.WholeBatches': WHATEVER THE INPUT: true; the input reads as it did. -/
def wholeBatchesSpec : ChangeSpec := { name := "wholeBatches", fn := fun _ => fun
  | [d1, d2, d3, d4, d5, d6] => { results := [.lit (.bool true)], args := [d1, d2, d3, d4, d5, d6] }
  | _ => none }
def wholeBatchesRow : OpenClaim := { program := "ythjemncbphdomaadoor", sum := "85d63d94b95834d9801346cadf7986c6adf738648f0c830385e1f1e956aa466f", func := "attest/attestlaw8.WholeBatches", spec := "wholeBatches", inPlace := ["internal/reflectlite.ValueOf", "(internal/reflectlite.Value).Type", "(internal/reflectlite.Value).IsNil", "internal/reflectlite.TypeOf", "(internal/reflectlite.Value).Elem", "(internal/reflectlite.Value).Set"], unfollowed := true, recurses := true, named := ["errors.errorType"], apart := false, laid := [("errors.errorType", laid_errors_errorType)] }
def WholeBatchesSaid : Prop := wholeBatchesRow.holds Tryd.pinned (OpenSpec.ofChange wholeBatchesSpec)

/-- ITS FALSE NEIGHBOUR: 'it returns false'. Refute it at one input. -/
def wholeBatchesWrong : ChangeSpec := { name := "wholeBatches", fn := fun _ => fun
  | [d1, d2, d3, d4, d5, d6] => { results := [.lit (.bool false)], args := [d1, d2, d3, d4, d5, d6] }
  | _ => none }
def WholeBatchesWrongFalsely : Prop := wholeBatchesRow.holds Tryd.pinned (OpenSpec.ofChange wholeBatchesWrong)

/-- 'attestlaw6.MachineWalks': WHATEVER THE INPUT: true; the input reads as it did. -/
def machineWalksSpec : ChangeSpec := { name := "machineWalks", fn := fun _ => fun
  | [d1, d2, d3] => { results := [.lit (.bool true)], args := [d1, d2, d3] }
  | _ => none }
def machineWalksRow : OpenClaim := { program := "ythjemncbphdomaadoor", sum := "85d63d94b95834d9801346cadf7986c6adf738648f0c830385e1f1e956aa466f", func := "attest/attestlaw6.MachineWalks", spec := "machineWalks", inPlace := ["internal/reflectlite.ValueOf", "(internal/reflectlite.Value).Type", "(internal/reflectlite.Value).IsNil", "internal/reflectlite.TypeOf", "(internal/reflectlite.Value).Elem", "(internal/reflectlite.Value).Set"], unfollowed := true, recurses := true, named := ["errors.errorType"], apart := false, laid := [("errors.errorType", laid_errors_errorType)] }
def MachineWalksSaid : Prop := machineWalksRow.holds Tryd.pinned (OpenSpec.ofChange machineWalksSpec)

/-- ITS FALSE NEIGHBOUR: 'it returns false'. Refute it at one input. -/
def machineWalksWrong : ChangeSpec := { name := "machineWalks", fn := fun _ => fun
  | [d1, d2, d3] => { results := [.lit (.bool false)], args := [d1, d2, d3] }
  | _ => none }
def MachineWalksWrongFalsely : Prop := machineWalksRow.holds Tryd.pinned (OpenSpec.ofChange machineWalksWrong)

/-- 'attestlaw10.GatesValues': WHATEVER THE INPUT: true; the input reads as it did. -/
def gatesValuesSpec : ChangeSpec := { name := "gatesValues", fn := fun _ => fun
  | [d1, d2, d3, d4, d5, d6, d7, d8] => { results := [.lit (.bool true)], args := [d1, d2, d3, d4, d5, d6, d7, d8] }
  | _ => none }
def gatesValuesRow : OpenClaim := { program := "ythjemncbphdomaadoor", sum := "85d63d94b95834d9801346cadf7986c6adf738648f0c830385e1f1e956aa466f", func := "attest/attestlaw10.GatesValues", spec := "gatesValues", inPlace := ["internal/reflectlite.ValueOf", "(internal/reflectlite.Value).Type", "(internal/reflectlite.Value).IsNil", "internal/reflectlite.TypeOf", "(internal/reflectlite.Value).Elem", "(internal/reflectlite.Value).Set"], unfollowed := true, recurses := true, named := ["errors.errorType"], apart := false, laid := [("errors.errorType", laid_errors_errorType)] }
def GatesValuesSaid : Prop := gatesValuesRow.holds Tryd.pinned (OpenSpec.ofChange gatesValuesSpec)

/-- ITS FALSE NEIGHBOUR: 'it returns false'. Refute it at one input. -/
def gatesValuesWrong : ChangeSpec := { name := "gatesValues", fn := fun _ => fun
  | [d1, d2, d3, d4, d5, d6, d7, d8] => { results := [.lit (.bool false)], args := [d1, d2, d3, d4, d5, d6, d7, d8] }
  | _ => none }
def GatesValuesWrongFalsely : Prop := gatesValuesRow.holds Tryd.pinned (OpenSpec.ofChange gatesValuesWrong)

/-- 'attestlaw10.GatesParts': WHATEVER THE INPUT: true; the input reads as it did. -/
def gatesPartsSpec : ChangeSpec := { name := "gatesParts", fn := fun _ => fun
  | [d1, d2, d3, d4, d5, d6] => { results := [.lit (.bool true)], args := [d1, d2, d3, d4, d5, d6] }
  | _ => none }
def gatesPartsRow : OpenClaim := { program := "ythjemncbphdomaadoor", sum := "85d63d94b95834d9801346cadf7986c6adf738648f0c830385e1f1e956aa466f", func := "attest/attestlaw10.GatesParts", spec := "gatesParts", inPlace := ["internal/reflectlite.ValueOf", "(internal/reflectlite.Value).Type", "(internal/reflectlite.Value).IsNil", "internal/reflectlite.TypeOf", "(internal/reflectlite.Value).Elem", "(internal/reflectlite.Value).Set"], unfollowed := true, recurses := true, named := ["errors.errorType"], apart := false, laid := [("errors.errorType", laid_errors_errorType)] }
def GatesPartsSaid : Prop := gatesPartsRow.holds Tryd.pinned (OpenSpec.ofChange gatesPartsSpec)

/-- ITS FALSE NEIGHBOUR: 'it returns false'. Refute it at one input. -/
def gatesPartsWrong : ChangeSpec := { name := "gatesParts", fn := fun _ => fun
  | [d1, d2, d3, d4, d5, d6] => { results := [.lit (.bool false)], args := [d1, d2, d3, d4, d5, d6] }
  | _ => none }
def GatesPartsWrongFalsely : Prop := gatesPartsRow.holds Tryd.pinned (OpenSpec.ofChange gatesPartsWrong)

/-- 'attestlaw10.PledgeKeeps': WHATEVER THE INPUT: true; the input reads as it did. -/
def pledgeKeepsSpec : ChangeSpec := { name := "pledgeKeeps", fn := fun _ => fun
  | [d1, d2, d3, d4, d5] => { results := [.lit (.bool true)], args := [d1, d2, d3, d4, d5] }
  | _ => none }
def pledgeKeepsRow : OpenClaim := { program := "ythjemncbphdomaadoor", sum := "85d63d94b95834d9801346cadf7986c6adf738648f0c830385e1f1e956aa466f", func := "attest/attestlaw10.PledgeKeeps", spec := "pledgeKeeps", inPlace := ["internal/reflectlite.ValueOf", "(internal/reflectlite.Value).Type", "(internal/reflectlite.Value).IsNil", "internal/reflectlite.TypeOf", "(internal/reflectlite.Value).Elem", "(internal/reflectlite.Value).Set"], unfollowed := true, recurses := true, named := ["errors.errorType"], apart := false, laid := [("errors.errorType", laid_errors_errorType)] }
def PledgeKeepsSaid : Prop := pledgeKeepsRow.holds Tryd.pinned (OpenSpec.ofChange pledgeKeepsSpec)

/-- ITS FALSE NEIGHBOUR: 'it returns false'. Refute it at one input. -/
def pledgeKeepsWrong : ChangeSpec := { name := "pledgeKeeps", fn := fun _ => fun
  | [d1, d2, d3, d4, d5] => { results := [.lit (.bool false)], args := [d1, d2, d3, d4, d5] }
  | _ => none }
def PledgeKeepsWrongFalsely : Prop := pledgeKeepsRow.holds Tryd.pinned (OpenSpec.ofChange pledgeKeepsWrong)

/-- 'attestlaw10.GatesLayer': WHATEVER THE INPUT: true; the input reads as it did. -/
def gatesLayerSpec : ChangeSpec := { name := "gatesLayer", fn := fun _ => fun
  | [d1, d2, d3, d4, d5, d6, d7] => { results := [.lit (.bool true)], args := [d1, d2, d3, d4, d5, d6, d7] }
  | _ => none }
def gatesLayerRow : OpenClaim := { program := "ythjemncbphdomaadoor", sum := "85d63d94b95834d9801346cadf7986c6adf738648f0c830385e1f1e956aa466f", func := "attest/attestlaw10.GatesLayer", spec := "gatesLayer", inPlace := ["internal/reflectlite.ValueOf", "(internal/reflectlite.Value).Type", "(internal/reflectlite.Value).IsNil", "internal/reflectlite.TypeOf", "(internal/reflectlite.Value).Elem", "(internal/reflectlite.Value).Set"], unfollowed := true, recurses := true, named := ["errors.errorType"], apart := false, laid := [("errors.errorType", laid_errors_errorType)] }
def GatesLayerSaid : Prop := gatesLayerRow.holds Tryd.pinned (OpenSpec.ofChange gatesLayerSpec)

/-- ITS FALSE NEIGHBOUR: 'it returns false'. Refute it at one input. -/
def gatesLayerWrong : ChangeSpec := { name := "gatesLayer", fn := fun _ => fun
  | [d1, d2, d3, d4, d5, d6, d7] => { results := [.lit (.bool false)], args := [d1, d2, d3, d4, d5, d6, d7] }
  | _ => none }
def GatesLayerWrongFalsely : Prop := gatesLayerRow.holds Tryd.pinned (OpenSpec.ofChange gatesLayerWrong)

/-- 'attestlaw10.GatesCatches': WHATEVER THE INPUT: true; the input reads as it did. -/
def gatesCatchesSpec : ChangeSpec := { name := "gatesCatches", fn := fun _ => fun
  | [d1, d2, d3, d4, d5, d6, d7, d8, d9] => { results := [.lit (.bool true)], args := [d1, d2, d3, d4, d5, d6, d7, d8, d9] }
  | _ => none }
def gatesCatchesRow : OpenClaim := { program := "ythjemncbphdomaadoor", sum := "85d63d94b95834d9801346cadf7986c6adf738648f0c830385e1f1e956aa466f", func := "attest/attestlaw10.GatesCatches", spec := "gatesCatches", inPlace := ["internal/reflectlite.ValueOf", "(internal/reflectlite.Value).Type", "(internal/reflectlite.Value).IsNil", "internal/reflectlite.TypeOf", "(internal/reflectlite.Value).Elem", "(internal/reflectlite.Value).Set"], unfollowed := true, recurses := true, named := ["errors.errorType"], apart := false, laid := [("errors.errorType", laid_errors_errorType)] }
def GatesCatchesSaid : Prop := gatesCatchesRow.holds Tryd.pinned (OpenSpec.ofChange gatesCatchesSpec)

/-- ITS FALSE NEIGHBOUR: 'it returns false'. Refute it at one input. -/
def gatesCatchesWrong : ChangeSpec := { name := "gatesCatches", fn := fun _ => fun
  | [d1, d2, d3, d4, d5, d6, d7, d8, d9] => { results := [.lit (.bool false)], args := [d1, d2, d3, d4, d5, d6, d7, d8, d9] }
  | _ => none }
def GatesCatchesWrongFalsely : Prop := gatesCatchesRow.holds Tryd.pinned (OpenSpec.ofChange gatesCatchesWrong)

/-- 'attestlaw7.RulesBroken': WHATEVER THE INPUT: true; the input reads as it did. -/
def rulesBrokenSpec : ChangeSpec := { name := "rulesBroken", fn := fun _ => fun
  | [d1, d2, d3, d4] => { results := [.lit (.bool true)], args := [d1, d2, d3, d4] }
  | _ => none }
def rulesBrokenRow : OpenClaim := { program := "ythjemncbphdomaadoor", sum := "85d63d94b95834d9801346cadf7986c6adf738648f0c830385e1f1e956aa466f", func := "attest/attestlaw7.RulesBroken", spec := "rulesBroken", inPlace := ["internal/reflectlite.ValueOf", "(internal/reflectlite.Value).Type", "(internal/reflectlite.Value).IsNil", "internal/reflectlite.TypeOf", "(internal/reflectlite.Value).Elem", "(internal/reflectlite.Value).Set"], unfollowed := true, recurses := true, named := ["errors.errorType"], apart := false, laid := [("errors.errorType", laid_errors_errorType)] }
def RulesBrokenSaid : Prop := rulesBrokenRow.holds Tryd.pinned (OpenSpec.ofChange rulesBrokenSpec)

/-- ITS FALSE NEIGHBOUR: 'it returns false'. Refute it at one input. -/
def rulesBrokenWrong : ChangeSpec := { name := "rulesBroken", fn := fun _ => fun
  | [d1, d2, d3, d4] => { results := [.lit (.bool false)], args := [d1, d2, d3, d4] }
  | _ => none }
def RulesBrokenWrongFalsely : Prop := rulesBrokenRow.holds Tryd.pinned (OpenSpec.ofChange rulesBrokenWrong)

/- THE SECOND FORM. 'bulk': how many values and letters a reading holds, each counted each time it is reached (what is shared counts as often as it is met; a slice's spare places count too). A statement '..UptoSaid' is the law's where the arguments, and the package variables that the reading takes, are together of bulk at most 1048576: NARROWER than '..Said'. Prove '..Said' where nothing that the law and all that it calls make is longer than what came in: it says more and counts as full. Else prove '..UptoSaid'. A law counts once. -/
mutual
def uptoBulk {H : Type} : DataW H → Nat
  | .lit (.string bytes) => bytes.length + 1
  | .lit _ => 1
  | .nil => 1
  | .ptr d => uptoBulk d + 1
  | .slice elems spare => uptoBulkAll elems + uptoBulkAll spare + 1
  | .agg parts => uptoBulkAll parts + 1
  | .iface _ d => uptoBulk d + 1
  | .map entries => uptoBulkEntries entries + 1
  | .held _ => 1
def uptoBulkAll {H : Type} : List (DataW H) → Nat
  | [] => 0
  | d :: r => uptoBulk d + uptoBulkAll r
def uptoBulkEntries {H : Type} : List (Lit × DataW H) → Nat
  | [] => 0
  | x :: r => uptoBulkEntry x + uptoBulkEntries r
def uptoBulkEntry {H : Type} : Lit × DataW H → Nat
  | (.string bytes, d) => bytes.length + uptoBulk d + 1
  | (_, d) => uptoBulk d + 1
 end
def uptoSmall : (H : Type) → List (DataW H) → Bool := fun _ ds => decide (uptoBulkAll ds ≤ 1048576)
def OpenSpec.upto (s : _root_.Go.ChangeSpec) : _root_.Go.OpenSpec := { _root_.Go.OpenSpec.ofChange s with cond := some uptoSmall }

/-- 'attestlaw7.RulesSame', WHERE WHAT IT READS IS OF BULK AT MOST 1048576: true; the input reads as it did. -/
def rulesSameUptoRow : OpenClaim := { program := "ythjemncbphdomaadoor", sum := "85d63d94b95834d9801346cadf7986c6adf738648f0c830385e1f1e956aa466f", func := "attest/attestlaw7.RulesSame", spec := "rulesSame", inPlace := ["internal/reflectlite.ValueOf", "(internal/reflectlite.Value).Type", "(internal/reflectlite.Value).IsNil", "internal/reflectlite.TypeOf", "(internal/reflectlite.Value).Elem", "(internal/reflectlite.Value).Set"], unfollowed := true, recurses := true, named := ["errors.errorType"], apart := false, laid := [("errors.errorType", laid_errors_errorType)], narrowed := true }
def RulesSameUptoSaid : Prop := rulesSameUptoRow.holds Tryd.pinned (OpenSpec.upto rulesSameSpec)

/-- 'attestlaw8.WholeBytes', WHERE WHAT IT READS IS OF BULK AT MOST 1048576: true; the input reads as it did. -/
def wholeBytesUptoRow : OpenClaim := { program := "ythjemncbphdomaadoor", sum := "85d63d94b95834d9801346cadf7986c6adf738648f0c830385e1f1e956aa466f", func := "attest/attestlaw8.WholeBytes", spec := "wholeBytes", inPlace := ["internal/reflectlite.ValueOf", "(internal/reflectlite.Value).Type", "(internal/reflectlite.Value).IsNil", "internal/reflectlite.TypeOf", "(internal/reflectlite.Value).Elem", "(internal/reflectlite.Value).Set"], unfollowed := true, recurses := true, named := ["errors.errorType"], apart := false, laid := [("errors.errorType", laid_errors_errorType)], narrowed := true }
def WholeBytesUptoSaid : Prop := wholeBytesUptoRow.holds Tryd.pinned (OpenSpec.upto wholeBytesSpec)

/-- 'attestlaw8.WholeBatches', WHERE WHAT IT READS IS OF BULK AT MOST 1048576: true; the input reads as it did. -/
def wholeBatchesUptoRow : OpenClaim := { program := "ythjemncbphdomaadoor", sum := "85d63d94b95834d9801346cadf7986c6adf738648f0c830385e1f1e956aa466f", func := "attest/attestlaw8.WholeBatches", spec := "wholeBatches", inPlace := ["internal/reflectlite.ValueOf", "(internal/reflectlite.Value).Type", "(internal/reflectlite.Value).IsNil", "internal/reflectlite.TypeOf", "(internal/reflectlite.Value).Elem", "(internal/reflectlite.Value).Set"], unfollowed := true, recurses := true, named := ["errors.errorType"], apart := false, laid := [("errors.errorType", laid_errors_errorType)], narrowed := true }
def WholeBatchesUptoSaid : Prop := wholeBatchesUptoRow.holds Tryd.pinned (OpenSpec.upto wholeBatchesSpec)

/-- 'attestlaw6.MachineWalks', WHERE WHAT IT READS IS OF BULK AT MOST 1048576: true; the input reads as it did. -/
def machineWalksUptoRow : OpenClaim := { program := "ythjemncbphdomaadoor", sum := "85d63d94b95834d9801346cadf7986c6adf738648f0c830385e1f1e956aa466f", func := "attest/attestlaw6.MachineWalks", spec := "machineWalks", inPlace := ["internal/reflectlite.ValueOf", "(internal/reflectlite.Value).Type", "(internal/reflectlite.Value).IsNil", "internal/reflectlite.TypeOf", "(internal/reflectlite.Value).Elem", "(internal/reflectlite.Value).Set"], unfollowed := true, recurses := true, named := ["errors.errorType"], apart := false, laid := [("errors.errorType", laid_errors_errorType)], narrowed := true }
def MachineWalksUptoSaid : Prop := machineWalksUptoRow.holds Tryd.pinned (OpenSpec.upto machineWalksSpec)

/-- 'attestlaw10.GatesValues', WHERE WHAT IT READS IS OF BULK AT MOST 1048576: true; the input reads as it did. -/
def gatesValuesUptoRow : OpenClaim := { program := "ythjemncbphdomaadoor", sum := "85d63d94b95834d9801346cadf7986c6adf738648f0c830385e1f1e956aa466f", func := "attest/attestlaw10.GatesValues", spec := "gatesValues", inPlace := ["internal/reflectlite.ValueOf", "(internal/reflectlite.Value).Type", "(internal/reflectlite.Value).IsNil", "internal/reflectlite.TypeOf", "(internal/reflectlite.Value).Elem", "(internal/reflectlite.Value).Set"], unfollowed := true, recurses := true, named := ["errors.errorType"], apart := false, laid := [("errors.errorType", laid_errors_errorType)], narrowed := true }
def GatesValuesUptoSaid : Prop := gatesValuesUptoRow.holds Tryd.pinned (OpenSpec.upto gatesValuesSpec)

/-- 'attestlaw10.GatesParts', WHERE WHAT IT READS IS OF BULK AT MOST 1048576: true; the input reads as it did. -/
def gatesPartsUptoRow : OpenClaim := { program := "ythjemncbphdomaadoor", sum := "85d63d94b95834d9801346cadf7986c6adf738648f0c830385e1f1e956aa466f", func := "attest/attestlaw10.GatesParts", spec := "gatesParts", inPlace := ["internal/reflectlite.ValueOf", "(internal/reflectlite.Value).Type", "(internal/reflectlite.Value).IsNil", "internal/reflectlite.TypeOf", "(internal/reflectlite.Value).Elem", "(internal/reflectlite.Value).Set"], unfollowed := true, recurses := true, named := ["errors.errorType"], apart := false, laid := [("errors.errorType", laid_errors_errorType)], narrowed := true }
def GatesPartsUptoSaid : Prop := gatesPartsUptoRow.holds Tryd.pinned (OpenSpec.upto gatesPartsSpec)

/-- 'attestlaw10.PledgeKeeps', WHERE WHAT IT READS IS OF BULK AT MOST 1048576: true; the input reads as it did. -/
def pledgeKeepsUptoRow : OpenClaim := { program := "ythjemncbphdomaadoor", sum := "85d63d94b95834d9801346cadf7986c6adf738648f0c830385e1f1e956aa466f", func := "attest/attestlaw10.PledgeKeeps", spec := "pledgeKeeps", inPlace := ["internal/reflectlite.ValueOf", "(internal/reflectlite.Value).Type", "(internal/reflectlite.Value).IsNil", "internal/reflectlite.TypeOf", "(internal/reflectlite.Value).Elem", "(internal/reflectlite.Value).Set"], unfollowed := true, recurses := true, named := ["errors.errorType"], apart := false, laid := [("errors.errorType", laid_errors_errorType)], narrowed := true }
def PledgeKeepsUptoSaid : Prop := pledgeKeepsUptoRow.holds Tryd.pinned (OpenSpec.upto pledgeKeepsSpec)

/-- 'attestlaw10.GatesLayer', WHERE WHAT IT READS IS OF BULK AT MOST 1048576: true; the input reads as it did. -/
def gatesLayerUptoRow : OpenClaim := { program := "ythjemncbphdomaadoor", sum := "85d63d94b95834d9801346cadf7986c6adf738648f0c830385e1f1e956aa466f", func := "attest/attestlaw10.GatesLayer", spec := "gatesLayer", inPlace := ["internal/reflectlite.ValueOf", "(internal/reflectlite.Value).Type", "(internal/reflectlite.Value).IsNil", "internal/reflectlite.TypeOf", "(internal/reflectlite.Value).Elem", "(internal/reflectlite.Value).Set"], unfollowed := true, recurses := true, named := ["errors.errorType"], apart := false, laid := [("errors.errorType", laid_errors_errorType)], narrowed := true }
def GatesLayerUptoSaid : Prop := gatesLayerUptoRow.holds Tryd.pinned (OpenSpec.upto gatesLayerSpec)

/-- 'attestlaw10.GatesCatches', WHERE WHAT IT READS IS OF BULK AT MOST 1048576: true; the input reads as it did. -/
def gatesCatchesUptoRow : OpenClaim := { program := "ythjemncbphdomaadoor", sum := "85d63d94b95834d9801346cadf7986c6adf738648f0c830385e1f1e956aa466f", func := "attest/attestlaw10.GatesCatches", spec := "gatesCatches", inPlace := ["internal/reflectlite.ValueOf", "(internal/reflectlite.Value).Type", "(internal/reflectlite.Value).IsNil", "internal/reflectlite.TypeOf", "(internal/reflectlite.Value).Elem", "(internal/reflectlite.Value).Set"], unfollowed := true, recurses := true, named := ["errors.errorType"], apart := false, laid := [("errors.errorType", laid_errors_errorType)], narrowed := true }
def GatesCatchesUptoSaid : Prop := gatesCatchesUptoRow.holds Tryd.pinned (OpenSpec.upto gatesCatchesSpec)

/-- 'attestlaw7.RulesBroken', WHERE WHAT IT READS IS OF BULK AT MOST 1048576: true; the input reads as it did. -/
def rulesBrokenUptoRow : OpenClaim := { program := "ythjemncbphdomaadoor", sum := "85d63d94b95834d9801346cadf7986c6adf738648f0c830385e1f1e956aa466f", func := "attest/attestlaw7.RulesBroken", spec := "rulesBroken", inPlace := ["internal/reflectlite.ValueOf", "(internal/reflectlite.Value).Type", "(internal/reflectlite.Value).IsNil", "internal/reflectlite.TypeOf", "(internal/reflectlite.Value).Elem", "(internal/reflectlite.Value).Set"], unfollowed := true, recurses := true, named := ["errors.errorType"], apart := false, laid := [("errors.errorType", laid_errors_errorType)], narrowed := true }
def RulesBrokenUptoSaid : Prop := rulesBrokenUptoRow.holds Tryd.pinned (OpenSpec.upto rulesBrokenSpec)

end Rows
end Go.Proofs.YthjemncbphdomaaDoor
