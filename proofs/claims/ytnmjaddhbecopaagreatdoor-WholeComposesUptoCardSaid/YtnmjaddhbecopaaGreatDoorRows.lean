/-
  NARROWER THAN 'FOR EVERY INPUT', by the rows' own cells (each row's printed sentence says how): PledgeMixes: laid · WholeComposes: laid · GatesMakes: laid · GatesChecks: laid · GatesTrue: laid · RulesSound: laid.
  DERIVED. THE GIVEN ROWS OF THIS SEAT. 6 by the template 'for every input the law returns true; each argument reads behind the call as it read before'; 0 by the template 'total and deterministic' (their statements: YtnmjaddhbecopaaGreatDoorTotals.lean).
  GIVEN WITH THE SEED: the statements are not yours to turn. If you find one false, say at which input.
  Laid BY PROGRAM, IN A SANDBOX (cutbox-rows.mjs): the forced cells as the released guide's own fill.sh prints them over the translation 1a6f0a22586be6c7… (all of the seat's roots in one cut). By AI agents, Wed Nov 11 2026. No macro, syntax, notation, axiom, sorry.
-/
import Derived.Test.YtnmjaddhbecopaaGreatDoorChecked
import GoSem.Claim
import GoSem.ClaimJoined
import GoSem.ClaimMapViews
import Derived.JoinedTies
import Derived.KernelRfl
namespace Go.Proofs.YtnmjaddhbecopaaGreatDoor
/- THE CELL 'sum', in the pinned program and in every row, IS THE sha256 OF THE DUMP (.gsa) THAT YtnmjaddhbecopaaGreatDoorProg.lean LOADS. Nothing in Lean hashes anything: it is a label: what it is worth is what the hold of that sum in a sandbox is worth. -/
noncomputable def Tryz.pinned : Pinned := { name := "ytnmjaddhbecopaagreatdoor", sum := "1a6f0a22586be6c7941a671f0127b4faf8bf2e1035657cb614cca05ea8d0ff89", checked := Tryz.checked }
namespace Rows
def none {H : Type} : Left H := { results := [], args := [] }

/- WHAT THE LISTED PACKAGE-LEVEL VARIABLES READ AS WHEN THE CALL BEGINS. Each datum BY PROGRAM (the guide's laid-datum.mjs) off the statement by which the dump's own 'gosem.cut.vars' lays the variable. In a bare row this is a premise. The card (YtnmjaddhbecopaaGreatDoorCards.lean) ties it to the program's text. -/
def laid_errors_errorType {H : Type} : DataW H := .iface "internal/reflectlite.rtype" (.agg [.ptr (.lit (.string [101, 114, 114, 111, 114]))])

/-- 'attestlaw10.PledgeMixes': WHATEVER THE INPUT: true; the input reads as it did. -/
def pledgeMixesSpec : ChangeSpec := { name := "pledgeMixes", fn := fun _ => fun
  | [d1, d2, d3, d4, d5, d6] => { results := [.lit (.bool true)], args := [d1, d2, d3, d4, d5, d6] }
  | _ => none }
def pledgeMixesRow : OpenClaim := { program := "ytnmjaddhbecopaagreatdoor", sum := "1a6f0a22586be6c7941a671f0127b4faf8bf2e1035657cb614cca05ea8d0ff89", func := "attest/attestlaw10.PledgeMixes", spec := "pledgeMixes", inPlace := ["internal/reflectlite.ValueOf", "(internal/reflectlite.Value).Type", "(internal/reflectlite.Value).IsNil", "internal/reflectlite.TypeOf", "(internal/reflectlite.Value).Elem", "(internal/reflectlite.Value).Set"], unfollowed := true, recurses := true, named := ["errors.errorType"], apart := false, laid := [("errors.errorType", laid_errors_errorType)] }
def PledgeMixesSaid : Prop := pledgeMixesRow.holds Tryz.pinned (OpenSpec.ofChange pledgeMixesSpec)

/-- ITS FALSE NEIGHBOUR: 'it returns false'. Refute it at one input. -/
def pledgeMixesWrong : ChangeSpec := { name := "pledgeMixes", fn := fun _ => fun
  | [d1, d2, d3, d4, d5, d6] => { results := [.lit (.bool false)], args := [d1, d2, d3, d4, d5, d6] }
  | _ => none }
def PledgeMixesWrongFalsely : Prop := pledgeMixesRow.holds Tryz.pinned (OpenSpec.ofChange pledgeMixesWrong)

/-- 'attestlaw8.WholeComposes': WHATEVER THE INPUT: true; the input reads as it did. -/
def wholeComposesSpec : ChangeSpec := { name := "wholeComposes", fn := fun _ => fun
  | [d1, d2, d3, d4, d5, d6, d7, d8] => { results := [.lit (.bool true)], args := [d1, d2, d3, d4, d5, d6, d7, d8] }
  | _ => none }
def wholeComposesRow : OpenClaim := { program := "ytnmjaddhbecopaagreatdoor", sum := "1a6f0a22586be6c7941a671f0127b4faf8bf2e1035657cb614cca05ea8d0ff89", func := "attest/attestlaw8.WholeComposes", spec := "wholeComposes", inPlace := ["internal/reflectlite.ValueOf", "(internal/reflectlite.Value).Type", "(internal/reflectlite.Value).IsNil", "internal/reflectlite.TypeOf", "(internal/reflectlite.Value).Elem", "(internal/reflectlite.Value).Set"], unfollowed := true, recurses := true, named := ["errors.errorType"], apart := false, laid := [("errors.errorType", laid_errors_errorType)] }
def WholeComposesSaid : Prop := wholeComposesRow.holds Tryz.pinned (OpenSpec.ofChange wholeComposesSpec)

/-- ITS FALSE NEIGHBOUR: 'it returns false'. Refute it at one input. -/
def wholeComposesWrong : ChangeSpec := { name := "wholeComposes", fn := fun _ => fun
  | [d1, d2, d3, d4, d5, d6, d7, d8] => { results := [.lit (.bool false)], args := [d1, d2, d3, d4, d5, d6, d7, d8] }
  | _ => none }
def WholeComposesWrongFalsely : Prop := wholeComposesRow.holds Tryz.pinned (OpenSpec.ofChange wholeComposesWrong)

/-- 'attestlaw10.GatesMakes': WHATEVER THE INPUT: true; the input reads as it did. -/
def gatesMakesSpec : ChangeSpec := { name := "gatesMakes", fn := fun _ => fun
  | [d1, d2, d3] => { results := [.lit (.bool true)], args := [d1, d2, d3] }
  | _ => none }
def gatesMakesRow : OpenClaim := { program := "ytnmjaddhbecopaagreatdoor", sum := "1a6f0a22586be6c7941a671f0127b4faf8bf2e1035657cb614cca05ea8d0ff89", func := "attest/attestlaw10.GatesMakes", spec := "gatesMakes", inPlace := ["internal/reflectlite.ValueOf", "(internal/reflectlite.Value).Type", "(internal/reflectlite.Value).IsNil", "internal/reflectlite.TypeOf", "(internal/reflectlite.Value).Elem", "(internal/reflectlite.Value).Set"], unfollowed := true, recurses := true, named := ["errors.errorType"], apart := false, laid := [("errors.errorType", laid_errors_errorType)] }
def GatesMakesSaid : Prop := gatesMakesRow.holds Tryz.pinned (OpenSpec.ofChange gatesMakesSpec)

/-- ITS FALSE NEIGHBOUR: 'it returns false'. Refute it at one input. -/
def gatesMakesWrong : ChangeSpec := { name := "gatesMakes", fn := fun _ => fun
  | [d1, d2, d3] => { results := [.lit (.bool false)], args := [d1, d2, d3] }
  | _ => none }
def GatesMakesWrongFalsely : Prop := gatesMakesRow.holds Tryz.pinned (OpenSpec.ofChange gatesMakesWrong)

/-- 'attestlaw10.GatesChecks': WHATEVER THE INPUT: true; the input reads as it did. -/
def gatesChecksSpec : ChangeSpec := { name := "gatesChecks", fn := fun _ => fun
  | [d1, d2, d3, d4] => { results := [.lit (.bool true)], args := [d1, d2, d3, d4] }
  | _ => none }
def gatesChecksRow : OpenClaim := { program := "ytnmjaddhbecopaagreatdoor", sum := "1a6f0a22586be6c7941a671f0127b4faf8bf2e1035657cb614cca05ea8d0ff89", func := "attest/attestlaw10.GatesChecks", spec := "gatesChecks", inPlace := ["internal/reflectlite.ValueOf", "(internal/reflectlite.Value).Type", "(internal/reflectlite.Value).IsNil", "internal/reflectlite.TypeOf", "(internal/reflectlite.Value).Elem", "(internal/reflectlite.Value).Set"], unfollowed := true, recurses := true, named := ["errors.errorType"], apart := false, laid := [("errors.errorType", laid_errors_errorType)] }
def GatesChecksSaid : Prop := gatesChecksRow.holds Tryz.pinned (OpenSpec.ofChange gatesChecksSpec)

/-- ITS FALSE NEIGHBOUR: 'it returns false'. Refute it at one input. -/
def gatesChecksWrong : ChangeSpec := { name := "gatesChecks", fn := fun _ => fun
  | [d1, d2, d3, d4] => { results := [.lit (.bool false)], args := [d1, d2, d3, d4] }
  | _ => none }
def GatesChecksWrongFalsely : Prop := gatesChecksRow.holds Tryz.pinned (OpenSpec.ofChange gatesChecksWrong)

/-- 'attestlaw10.GatesTrue': WHATEVER THE INPUT: true; the input reads as it did. -/
def gatesTrueSpec : ChangeSpec := { name := "gatesTrue", fn := fun _ => fun
  | [d1, d2, d3] => { results := [.lit (.bool true)], args := [d1, d2, d3] }
  | _ => none }
def gatesTrueRow : OpenClaim := { program := "ytnmjaddhbecopaagreatdoor", sum := "1a6f0a22586be6c7941a671f0127b4faf8bf2e1035657cb614cca05ea8d0ff89", func := "attest/attestlaw10.GatesTrue", spec := "gatesTrue", inPlace := ["internal/reflectlite.ValueOf", "(internal/reflectlite.Value).Type", "(internal/reflectlite.Value).IsNil", "internal/reflectlite.TypeOf", "(internal/reflectlite.Value).Elem", "(internal/reflectlite.Value).Set"], unfollowed := true, recurses := true, named := ["errors.errorType"], apart := false, laid := [("errors.errorType", laid_errors_errorType)] }
def GatesTrueSaid : Prop := gatesTrueRow.holds Tryz.pinned (OpenSpec.ofChange gatesTrueSpec)

/-- ITS FALSE NEIGHBOUR: 'it returns false'. Refute it at one input. -/
def gatesTrueWrong : ChangeSpec := { name := "gatesTrue", fn := fun _ => fun
  | [d1, d2, d3] => { results := [.lit (.bool false)], args := [d1, d2, d3] }
  | _ => none }
def GatesTrueWrongFalsely : Prop := gatesTrueRow.holds Tryz.pinned (OpenSpec.ofChange gatesTrueWrong)

/-- 'attestlaw7.RulesSound': WHATEVER THE INPUT: true; the input reads as it did. -/
def rulesSoundSpec : ChangeSpec := { name := "rulesSound", fn := fun _ => fun
  | [d1, d2, d3, d4] => { results := [.lit (.bool true)], args := [d1, d2, d3, d4] }
  | _ => none }
def rulesSoundRow : OpenClaim := { program := "ytnmjaddhbecopaagreatdoor", sum := "1a6f0a22586be6c7941a671f0127b4faf8bf2e1035657cb614cca05ea8d0ff89", func := "attest/attestlaw7.RulesSound", spec := "rulesSound", inPlace := ["internal/reflectlite.ValueOf", "(internal/reflectlite.Value).Type", "(internal/reflectlite.Value).IsNil", "internal/reflectlite.TypeOf", "(internal/reflectlite.Value).Elem", "(internal/reflectlite.Value).Set"], unfollowed := true, recurses := true, named := ["errors.errorType"], apart := false, laid := [("errors.errorType", laid_errors_errorType)] }
def RulesSoundSaid : Prop := rulesSoundRow.holds Tryz.pinned (OpenSpec.ofChange rulesSoundSpec)

/-- ITS FALSE NEIGHBOUR: 'it returns false'. Refute it at one input. -/
def rulesSoundWrong : ChangeSpec := { name := "rulesSound", fn := fun _ => fun
  | [d1, d2, d3, d4] => { results := [.lit (.bool false)], args := [d1, d2, d3, d4] }
  | _ => none }
def RulesSoundWrongFalsely : Prop := rulesSoundRow.holds Tryz.pinned (OpenSpec.ofChange rulesSoundWrong)

/- THE SECOND FORM. 'bulk': how many values and letters a reading holds, each counted each time it is reached (what is shared counts as often as it is met; a slice's spare places count too). A statement '..UptoSaid' is the law's where the arguments, and the package variables that the reading takes, are together of bulk at most 1048576: NARROWER than '..Said'. Prove '..Said' where nothing that the law and all that it calls make is longer than what came in: it says more and counts as full. Else prove '..UptoSaid'. A law counts once. -/
mutual
def uptoBulk {H : Type} : DataW H → Nat
  | .lit (.string bytes) => bytes.length + 1
  | .lit _ => 1
  | .nil => 1
  | .ptr d => uptoBulk d + 1
  | .slice elems spare => uptoBulkAll elems + uptoBulkAll spare + 1
  | .agg parts => uptoBulkAll parts + 1
  | .iface _ d => uptoBulk d + 1
  | .map entries => uptoBulkEntries entries + 1
  | .held _ => 1
def uptoBulkAll {H : Type} : List (DataW H) → Nat
  | [] => 0
  | d :: r => uptoBulk d + uptoBulkAll r
def uptoBulkEntries {H : Type} : List (Lit × DataW H) → Nat
  | [] => 0
  | x :: r => uptoBulkEntry x + uptoBulkEntries r
def uptoBulkEntry {H : Type} : Lit × DataW H → Nat
  | (.string bytes, d) => bytes.length + uptoBulk d + 1
  | (_, d) => uptoBulk d + 1
 end
def uptoSmall : (H : Type) → List (DataW H) → Bool := fun _ ds => decide (uptoBulkAll ds ≤ 1048576)
def OpenSpec.upto (s : _root_.Go.ChangeSpec) : _root_.Go.OpenSpec := { _root_.Go.OpenSpec.ofChange s with cond := some uptoSmall }

/-- 'attestlaw10.PledgeMixes', WHERE WHAT IT READS IS OF BULK AT MOST 1048576: true; the input reads as it did. -/
def pledgeMixesUptoRow : OpenClaim := { program := "ytnmjaddhbecopaagreatdoor", sum := "1a6f0a22586be6c7941a671f0127b4faf8bf2e1035657cb614cca05ea8d0ff89", func := "attest/attestlaw10.PledgeMixes", spec := "pledgeMixes", inPlace := ["internal/reflectlite.ValueOf", "(internal/reflectlite.Value).Type", "(internal/reflectlite.Value).IsNil", "internal/reflectlite.TypeOf", "(internal/reflectlite.Value).Elem", "(internal/reflectlite.Value).Set"], unfollowed := true, recurses := true, named := ["errors.errorType"], apart := false, laid := [("errors.errorType", laid_errors_errorType)], narrowed := true }
def PledgeMixesUptoSaid : Prop := pledgeMixesUptoRow.holds Tryz.pinned (OpenSpec.upto pledgeMixesSpec)

/-- 'attestlaw8.WholeComposes', WHERE WHAT IT READS IS OF BULK AT MOST 1048576: true; the input reads as it did. -/
def wholeComposesUptoRow : OpenClaim := { program := "ytnmjaddhbecopaagreatdoor", sum := "1a6f0a22586be6c7941a671f0127b4faf8bf2e1035657cb614cca05ea8d0ff89", func := "attest/attestlaw8.WholeComposes", spec := "wholeComposes", inPlace := ["internal/reflectlite.ValueOf", "(internal/reflectlite.Value).Type", "(internal/reflectlite.Value).IsNil", "internal/reflectlite.TypeOf", "(internal/reflectlite.Value).Elem", "(internal/reflectlite.Value).Set"], unfollowed := true, recurses := true, named := ["errors.errorType"], apart := false, laid := [("errors.errorType", laid_errors_errorType)], narrowed := true }
def WholeComposesUptoSaid : Prop := wholeComposesUptoRow.holds Tryz.pinned (OpenSpec.upto wholeComposesSpec)

/-- 'attestlaw10.GatesMakes', WHERE WHAT IT READS IS OF BULK AT MOST 1048576: true; the input reads as it did. -/
def gatesMakesUptoRow : OpenClaim := { program := "ytnmjaddhbecopaagreatdoor", sum := "1a6f0a22586be6c7941a671f0127b4faf8bf2e1035657cb614cca05ea8d0ff89", func := "attest/attestlaw10.GatesMakes", spec := "gatesMakes", inPlace := ["internal/reflectlite.ValueOf", "(internal/reflectlite.Value).Type", "(internal/reflectlite.Value).IsNil", "internal/reflectlite.TypeOf", "(internal/reflectlite.Value).Elem", "(internal/reflectlite.Value).Set"], unfollowed := true, recurses := true, named := ["errors.errorType"], apart := false, laid := [("errors.errorType", laid_errors_errorType)], narrowed := true }
def GatesMakesUptoSaid : Prop := gatesMakesUptoRow.holds Tryz.pinned (OpenSpec.upto gatesMakesSpec)

/-- 'attestlaw10.GatesChecks', WHERE WHAT IT READS IS OF BULK AT MOST 1048576: true; the input reads as it did. -/
def gatesChecksUptoRow : OpenClaim := { program := "ytnmjaddhbecopaagreatdoor", sum := "1a6f0a22586be6c7941a671f0127b4faf8bf2e1035657cb614cca05ea8d0ff89", func := "attest/attestlaw10.GatesChecks", spec := "gatesChecks", inPlace := ["internal/reflectlite.ValueOf", "(internal/reflectlite.Value).Type", "(internal/reflectlite.Value).IsNil", "internal/reflectlite.TypeOf", "(internal/reflectlite.Value).Elem", "(internal/reflectlite.Value).Set"], unfollowed := true, recurses := true, named := ["errors.errorType"], apart := false, laid := [("errors.errorType", laid_errors_errorType)], narrowed := true }
def GatesChecksUptoSaid : Prop := gatesChecksUptoRow.holds Tryz.pinned (OpenSpec.upto gatesChecksSpec)

/-- 'attestlaw10.GatesTrue', WHERE WHAT IT READS IS OF BULK AT MOST 1048576: true; the input reads as it did. -/
def gatesTrueUptoRow : OpenClaim := { program := "ytnmjaddhbecopaagreatdoor", sum := "1a6f0a22586be6c7941a671f0127b4faf8bf2e1035657cb614cca05ea8d0ff89", func := "attest/attestlaw10.GatesTrue", spec := "gatesTrue", inPlace := ["internal/reflectlite.ValueOf", "(internal/reflectlite.Value).Type", "(internal/reflectlite.Value).IsNil", "internal/reflectlite.TypeOf", "(internal/reflectlite.Value).Elem", "(internal/reflectlite.Value).Set"], unfollowed := true, recurses := true, named := ["errors.errorType"], apart := false, laid := [("errors.errorType", laid_errors_errorType)], narrowed := true }
def GatesTrueUptoSaid : Prop := gatesTrueUptoRow.holds Tryz.pinned (OpenSpec.upto gatesTrueSpec)

/-- 'attestlaw7.RulesSound', WHERE WHAT IT READS IS OF BULK AT MOST 1048576: true; the input reads as it did. -/
def rulesSoundUptoRow : OpenClaim := { program := "ytnmjaddhbecopaagreatdoor", sum := "1a6f0a22586be6c7941a671f0127b4faf8bf2e1035657cb614cca05ea8d0ff89", func := "attest/attestlaw7.RulesSound", spec := "rulesSound", inPlace := ["internal/reflectlite.ValueOf", "(internal/reflectlite.Value).Type", "(internal/reflectlite.Value).IsNil", "internal/reflectlite.TypeOf", "(internal/reflectlite.Value).Elem", "(internal/reflectlite.Value).Set"], unfollowed := true, recurses := true, named := ["errors.errorType"], apart := false, laid := [("errors.errorType", laid_errors_errorType)], narrowed := true }
def RulesSoundUptoSaid : Prop := rulesSoundUptoRow.holds Tryz.pinned (OpenSpec.upto rulesSoundSpec)

end Rows
end Go.Proofs.YtnmjaddhbecopaaGreatDoor
