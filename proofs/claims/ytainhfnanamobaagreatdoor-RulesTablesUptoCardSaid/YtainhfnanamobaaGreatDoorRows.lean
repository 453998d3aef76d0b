/-
  NARROWER THAN 'FOR EVERY INPUT', by the rows' own cells (each row's printed sentence says how): WholeComposes: laid · RulesTables: laid · RulesSound: laid.
  DERIVED. THE GIVEN ROWS OF THIS SEAT. 3 by the template 'for every input the law returns true; each argument reads behind the call as it read before'; 0 by the template 'total and deterministic' (their statements: YtainhfnanamobaaGreatDoorTotals.lean).
  GIVEN WITH THE SEED: the statements are not yours to turn. If you find one false, say at which input.
  Laid BY PROGRAM, IN A SANDBOX (cutbox-rows.mjs): the forced cells as the released guide's own fill.sh prints them over the translation 2ba1392476a16486… (all of the seat's roots in one cut). By AI agents, Wed Nov 11 2026. No macro, syntax, notation, axiom, sorry.
-/
import Derived.Test.YtainhfnanamobaaGreatDoorChecked
import GoSem.Claim
import GoSem.ClaimJoined
import GoSem.ClaimMapViews
import Derived.JoinedTies
import Derived.KernelRfl
namespace Go.Proofs.YtainhfnanamobaaGreatDoor
/- THE CELL 'sum', in the pinned program and in every row, IS THE sha256 OF THE DUMP (.gsa) THAT YtainhfnanamobaaGreatDoorProg.lean LOADS. Nothing in Lean hashes anything: it is a label: what it is worth is what the hold of that sum in a sandbox is worth. -/
noncomputable def Tryz.pinned : Pinned := { name := "ytainhfnanamobaagreatdoor", sum := "2ba1392476a164865ae36ec42c960b223e08d70c9ff1c295ec6e6155f2df80c1", checked := Tryz.checked }
namespace Rows
def none {H : Type} : Left H := { results := [], args := [] }

/- WHAT THE LISTED PACKAGE-LEVEL VARIABLES READ AS WHEN THE CALL BEGINS. Each datum BY PROGRAM (the guide's laid-datum.mjs) off the statement by which the dump's own 'gosem.cut.vars' lays the variable. In a bare row this is a premise. The card (YtainhfnanamobaaGreatDoorCards.lean) ties it to the program's text. -/
def laid_errors_errorType {H : Type} : DataW H := .iface "internal/reflectlite.rtype" (.agg [.ptr (.lit (.string [101, 114, 114, 111, 114]))])

/-- 'attestlaw8.WholeComposes': WHATEVER THE INPUT: true; the input reads as it did. -/
def wholeComposesSpec : ChangeSpec := { name := "wholeComposes", fn := fun _ => fun
  | [d1, d2, d3, d4, d5, d6, d7, d8] => { results := [.lit (.bool true)], args := [d1, d2, d3, d4, d5, d6, d7, d8] }
  | _ => none }
def wholeComposesRow : OpenClaim := { program := "ytainhfnanamobaagreatdoor", sum := "2ba1392476a164865ae36ec42c960b223e08d70c9ff1c295ec6e6155f2df80c1", func := "attest/attestlaw8.WholeComposes", spec := "wholeComposes", inPlace := ["internal/reflectlite.ValueOf", "(internal/reflectlite.Value).Type", "(internal/reflectlite.Value).IsNil", "internal/reflectlite.TypeOf", "(internal/reflectlite.Value).Elem", "(internal/reflectlite.Value).Set"], unfollowed := true, recurses := true, named := ["errors.errorType"], apart := false, laid := [("errors.errorType", laid_errors_errorType)] }
def WholeComposesSaid : Prop := wholeComposesRow.holds Tryz.pinned (OpenSpec.ofChange wholeComposesSpec)

/-- ITS FALSE NEIGHBOUR: 'it returns false'. Refute it at one input. -/
def wholeComposesWrong : ChangeSpec := { name := "wholeComposes", fn := fun _ => fun
  | [d1, d2, d3, d4, d5, d6, d7, d8] => { results := [.lit (.bool false)], args := [d1, d2, d3, d4, d5, d6, d7, d8] }
  | _ => none }
def WholeComposesWrongFalsely : Prop := wholeComposesRow.holds Tryz.pinned (OpenSpec.ofChange wholeComposesWrong)

/-- 'attestlaw7.RulesTables': WHATEVER THE INPUT: true; the input reads as it did. -/
def rulesTablesSpec : ChangeSpec := { name := "rulesTables", fn := fun _ => fun
  | [d1, d2, d3] => { results := [.lit (.bool true)], args := [d1, d2, d3] }
  | _ => none }
def rulesTablesRow : OpenClaim := { program := "ytainhfnanamobaagreatdoor", sum := "2ba1392476a164865ae36ec42c960b223e08d70c9ff1c295ec6e6155f2df80c1", func := "attest/attestlaw7.RulesTables", spec := "rulesTables", inPlace := ["internal/reflectlite.ValueOf", "(internal/reflectlite.Value).Type", "(internal/reflectlite.Value).IsNil", "internal/reflectlite.TypeOf", "(internal/reflectlite.Value).Elem", "(internal/reflectlite.Value).Set"], unfollowed := true, recurses := true, named := ["errors.errorType"], apart := false, laid := [("errors.errorType", laid_errors_errorType)] }
def RulesTablesSaid : Prop := rulesTablesRow.holds Tryz.pinned (OpenSpec.ofChange rulesTablesSpec)

/-- ITS FALSE NEIGHBOUR: 'it returns false'. Refute it at one input. -/
def rulesTablesWrong : ChangeSpec := { name := "rulesTables", fn := fun _ => fun
  | [d1, d2, d3] => { results := [.lit (.bool false)], args := [d1, d2, d3] }
  | _ => none }
def RulesTablesWrongFalsely : Prop := rulesTablesRow.holds Tryz.pinned (OpenSpec.ofChange rulesTablesWrong)

/-- 'attestlaw7.RulesSound': WHATEVER THE INPUT: true; the input reads as it did. -/
def rulesSoundSpec : ChangeSpec := { name := "rulesSound", fn := fun _ => fun
  | [d1, d2, d3, d4] => { results := [.lit (.bool true)], args := [d1, d2, d3, d4] }
  | _ => none }
def rulesSoundRow : OpenClaim := { program := "ytainhfnanamobaagreatdoor", sum := "2ba1392476a164865ae36ec42c960b223e08d70c9ff1c295ec6e6155f2df80c1", func := "attest/attestlaw7.RulesSound", spec := "rulesSound", inPlace := ["internal/reflectlite.ValueOf", "(internal/reflectlite.Value).Type", "(internal/reflectlite.Value).IsNil", "internal/reflectlite.TypeOf", "(internal/reflectlite.Value).Elem", "(internal/reflectlite.Value).Set"], unfollowed := true, recurses := true, named := ["errors.errorType"], apart := false, laid := [("errors.errorType", laid_errors_errorType)] }
def RulesSoundSaid : Prop := rulesSoundRow.holds Tryz.pinned (OpenSpec.ofChange rulesSoundSpec)

/-- ITS FALSE NEIGHBOUR: 'it returns false'. Refute it at one input. -/
def rulesSoundWrong : ChangeSpec := { name := "rulesSound", fn := fun _ => fun
  | [d1, d2, d3, d4] => { results := [.lit (.bool false)], args := [d1, d2, d3, d4] }
  | _ => none }
def RulesSoundWrongFalsely : Prop := rulesSoundRow.holds Tryz.pinned (OpenSpec.ofChange rulesSoundWrong)

/- THE SECOND FORM. 'bulk': how many values and letters a reading holds, each counted each time it is reached (what is shared counts as often as it is met; a slice's spare places count too). A statement '..UptoSaid' is the law's where the arguments, and the package variables that the reading takes, are together of bulk at most 1048576: NARROWER than '..Said'. Prove '..Said' where nothing that the law and all that it calls make is longer than what came in: it says more and counts as full. Else prove '..UptoSaid'. A law counts once. -/
mutual
def uptoBulk {H : Type} : DataW H → Nat
  | .lit (.string bytes) => bytes.length + 1
  | .lit _ => 1
  | .nil => 1
  | .ptr d => uptoBulk d + 1
  | .slice elems spare => uptoBulkAll elems + uptoBulkAll spare + 1
  | .agg parts => uptoBulkAll parts + 1
  | .iface _ d => uptoBulk d + 1
  | .map entries => uptoBulkEntries entries + 1
  | .held _ => 1
def uptoBulkAll {H : Type} : List (DataW H) → Nat
  | [] => 0
  | d :: r => uptoBulk d + uptoBulkAll r
def uptoBulkEntries {H : Type} : List (Lit × DataW H) → Nat
  | [] => 0
  | x :: r => uptoBulkEntry x + uptoBulkEntries r
def uptoBulkEntry {H : Type} : Lit × DataW H → Nat
  | (.string bytes, d) => bytes.length + uptoBulk d + 1
  | (_, d) => uptoBulk d + 1
 end
def uptoSmall : (H : Type) → List (DataW H) → Bool := fun _ ds => decide (uptoBulkAll ds ≤ 1048576)
def OpenSpec.upto (s : _root_.Go.ChangeSpec) : _root_.Go.OpenSpec := { _root_.Go.OpenSpec.ofChange s with cond := some uptoSmall }

/-- 'attestlaw8.WholeComposes', WHERE WHAT IT READS IS OF BULK AT MOST 1048576: true; the input reads as it did. -/
def wholeComposesUptoRow : OpenClaim := { program := "ytainhfnanamobaagreatdoor", sum := "2ba1392476a164865ae36ec42c960b223e08d70c9ff1c295ec6e6155f2df80c1", func := "attest/attestlaw8.WholeComposes", spec := "wholeComposes", inPlace := ["internal/reflectlite.ValueOf", "(internal/reflectlite.Value).Type", "(internal/reflectlite.Value).IsNil", "internal/reflectlite.TypeOf", "(internal/reflectlite.Value).Elem", "(internal/reflectlite.Value).Set"], unfollowed := true, recurses := true, named := ["errors.errorType"], apart := false, laid := [("errors.errorType", laid_errors_errorType)], narrowed := true }
def WholeComposesUptoSaid : Prop := wholeComposesUptoRow.holds Tryz.pinned (OpenSpec.upto wholeComposesSpec)

/-- 'attestlaw7.RulesTables', WHERE WHAT IT READS IS OF BULK AT MOST 1048576: true; the input reads as it did. -/
def rulesTablesUptoRow : OpenClaim := { program := "ytainhfnanamobaagreatdoor", sum := "2ba1392476a164865ae36ec42c960b223e08d70c9ff1c295ec6e6155f2df80c1", func := "attest/attestlaw7.RulesTables", spec := "rulesTables", inPlace := ["internal/reflectlite.ValueOf", "(internal/reflectlite.Value).Type", "(internal/reflectlite.Value).IsNil", "internal/reflectlite.TypeOf", "(internal/reflectlite.Value).Elem", "(internal/reflectlite.Value).Set"], unfollowed := true, recurses := true, named := ["errors.errorType"], apart := false, laid := [("errors.errorType", laid_errors_errorType)], narrowed := true }
def RulesTablesUptoSaid : Prop := rulesTablesUptoRow.holds Tryz.pinned (OpenSpec.upto rulesTablesSpec)

/-- 'attestlaw7.RulesSound', WHERE WHAT IT READS IS OF BULK AT MOST 1048576: true; the input reads as it did. -/
def rulesSoundUptoRow : OpenClaim := { program := "ytainhfnanamobaagreatdoor", sum := "2ba1392476a164865ae36ec42c960b223e08d70c9ff1c295ec6e6155f2df80c1", func := "attest/attestlaw7.RulesSound", spec := "rulesSound", inPlace := ["internal/reflectlite.ValueOf", "(internal/reflectlite.Value).Type", "(internal/reflectlite.Value).IsNil", "internal/reflectlite.TypeOf", "(internal/reflectlite.Value).Elem", "(internal/reflectlite.Value).Set"], unfollowed := true, recurses := true, named := ["errors.errorType"], apart := false, laid := [("errors.errorType", laid_errors_errorType)], narrowed := true }
def RulesSoundUptoSaid : Prop := rulesSoundUptoRow.holds Tryz.pinned (OpenSpec.upto rulesSoundSpec)

end Rows
end Go.Proofs.YtainhfnanamobaaGreatDoor
