/-
  NARROWER THAN 'FOR EVERY INPUT', by the rows' own cells (each row's printed sentence says how): PledgeMixes: laid · GatesChecks: laid · GatesTrue: laid.
  DERIVED. THE GIVEN ROWS OF THIS SEAT. 3 by the template 'for every input the law returns true; each argument reads behind the call as it read before'; 0 by the template 'total and deterministic' (their statements: YtaajjaadlpgbiaaGreatDoorTotals.lean).
  GIVEN WITH THE SEED: the statements are not yours to turn. If you find one false, say at which input.
  Laid BY PROGRAM, IN A SANDBOX (cutbox-rows.mjs): the forced cells as the released guide's own fill.sh prints them over the translation dff3332f0a63e9e6… (all of the seat's roots in one cut). By AI agents, Wed Nov 11 2026. No macro, syntax, notation, axiom, sorry.
-/
import Derived.Test.YtaajjaadlpgbiaaGreatDoorChecked
import GoSem.Claim
import GoSem.ClaimJoined
import GoSem.ClaimMapViews
import Derived.JoinedTies
import Derived.KernelRfl
namespace Go.Proofs.YtaajjaadlpgbiaaGreatDoor
/- THE CELL 'sum', in the pinned program and in every row, IS THE sha256 OF THE DUMP (.gsa) THAT YtaajjaadlpgbiaaGreatDoorProg.lean LOADS. Nothing in Lean hashes anything: it is a label: what it is worth is what the hold of that sum in a sandbox is worth. -/
noncomputable def Tryz.pinned : Pinned := { name := "ytaajjaadlpgbiaagreatdoor", sum := "dff3332f0a63e9e6779e6b75fc2eab661ebe3399ffcc6b61361f7a7aba626a32", checked := Tryz.checked }
namespace Rows
def none {H : Type} : Left H := { results := [], args := [] }

/- WHAT THE LISTED PACKAGE-LEVEL VARIABLES READ AS WHEN THE CALL BEGINS. Each datum BY PROGRAM (the guide's laid-datum.mjs) off the statement by which the dump's own 'gosem.cut.vars' lays the variable. In a bare row this is a premise. The card (YtaajjaadlpgbiaaGreatDoorCards.lean) ties it to the program's text. -/
def laid_errors_errorType {H : Type} : DataW H := .iface "internal/reflectlite.rtype" (.agg [.ptr (.lit (.string [101, 114, 114, 111, 114]))])

/-- 'attestlaw10.PledgeMixes': WHATEVER THE INPUT: true; the input reads as it did. -/
def pledgeMixesSpec : ChangeSpec := { name := "pledgeMixes", fn := fun _ => fun
  | [d1, d2, d3, d4, d5, d6] => { results := [.lit (.bool true)], args := [d1, d2, d3, d4, d5, d6] }
  | _ => none }
def pledgeMixesRow : OpenClaim := { program := "ytaajjaadlpgbiaagreatdoor", sum := "dff3332f0a63e9e6779e6b75fc2eab661ebe3399ffcc6b61361f7a7aba626a32", func := "attest/attestlaw10.PledgeMixes", spec := "pledgeMixes", inPlace := ["internal/reflectlite.ValueOf", "(internal/reflectlite.Value).Type", "(internal/reflectlite.Value).IsNil", "internal/reflectlite.TypeOf", "(internal/reflectlite.Value).Elem", "(internal/reflectlite.Value).Set"], unfollowed := true, recurses := true, named := ["errors.errorType"], apart := false, laid := [("errors.errorType", laid_errors_errorType)] }
def PledgeMixesSaid : Prop := pledgeMixesRow.holds Tryz.pinned (OpenSpec.ofChange pledgeMixesSpec)

/-- ITS FALSE NEIGHBOUR: 'it returns false'. Refute it at one input. -/
def pledgeMixesWrong : ChangeSpec := { name := "pledgeMixes", fn := fun _ => fun
  | [d1, d2, d3, d4, d5, d6] => { results := [.lit (.bool false)], args := [d1, d2, d3, d4, d5, d6] }
  | _ => none }
def PledgeMixesWrongFalsely : Prop := pledgeMixesRow.holds Tryz.pinned (OpenSpec.ofChange pledgeMixesWrong)

/-- 'attestlaw10.GatesChecks': WHATEVER THE INPUT: true; the input reads as it did. -/
def gatesChecksSpec : ChangeSpec := { name := "gatesChecks", fn := fun _ => fun
  | [d1, d2, d3, d4] => { results := [.lit (.bool true)], args := [d1, d2, d3, d4] }
  | _ => none }
def gatesChecksRow : OpenClaim := { program := "ytaajjaadlpgbiaagreatdoor", sum := "dff3332f0a63e9e6779e6b75fc2eab661ebe3399ffcc6b61361f7a7aba626a32", func := "attest/attestlaw10.GatesChecks", spec := "gatesChecks", inPlace := ["internal/reflectlite.ValueOf", "(internal/reflectlite.Value).Type", "(internal/reflectlite.Value).IsNil", "internal/reflectlite.TypeOf", "(internal/reflectlite.Value).Elem", "(internal/reflectlite.Value).Set"], unfollowed := true, recurses := true, named := ["errors.errorType"], apart := false, laid := [("errors.errorType", laid_errors_errorType)] }
def GatesChecksSaid : Prop := gatesChecksRow.holds Tryz.pinned (OpenSpec.ofChange gatesChecksSpec)

/-- ITS FALSE NEIGHBOUR: 'it returns false'. Refute it at one input. -/
def gatesChecksWrong : ChangeSpec := { name := "gatesChecks", fn := fun _ => fun
  | [d1, d2, d3, d4] => { results := [.lit (.bool false)], args := [d1, d2, d3, d4] }
  | _ => none }
def GatesChecksWrongFalsely : Prop := gatesChecksRow.holds Tryz.pinned (OpenSpec.ofChange gatesChecksWrong)

/-- 'attestlaw10.GatesTrue': WHATEVER THE INPUT: true; the input reads as it did. -/
def gatesTrueSpec : ChangeSpec := { name := "gatesTrue", fn := fun _ => fun
  | [d1, d2, d3] => { results := [.lit (.bool true)], args := [d1, d2, d3] }
  | _ => none }
def gatesTrueRow : OpenClaim := { program := "ytaajjaadlpgbiaagreatdoor", sum := "dff3332f0a63e9e6779e6b75fc2eab661ebe3399ffcc6b61361f7a7aba626a32", func := "attest/attestlaw10.GatesTrue", spec := "gatesTrue", inPlace := ["internal/reflectlite.ValueOf", "(internal/reflectlite.Value).Type", "(internal/reflectlite.Value).IsNil", "internal/reflectlite.TypeOf", "(internal/reflectlite.Value).Elem", "(internal/reflectlite.Value).Set"], unfollowed := true, recurses := true, named := ["errors.errorType"], apart := false, laid := [("errors.errorType", laid_errors_errorType)] }
def GatesTrueSaid : Prop := gatesTrueRow.holds Tryz.pinned (OpenSpec.ofChange gatesTrueSpec)

/-- ITS FALSE NEIGHBOUR: 'it returns false'. Refute it at one input. -/
def gatesTrueWrong : ChangeSpec := { name := "gatesTrue", fn := fun _ => fun
  | [d1, d2, d3] => { results := [.lit (.bool false)], args := [d1, d2, d3] }
  | _ => none }
def GatesTrueWrongFalsely : Prop := gatesTrueRow.holds Tryz.pinned (OpenSpec.ofChange gatesTrueWrong)

/- THE SECOND FORM. 'bulk': how many values and letters a reading holds, each counted each time it is reached (what is shared counts as often as it is met; a slice's spare places count too). A statement '..UptoSaid' is the law's where the arguments, and the package variables that the reading takes, are together of bulk at most 1048576: NARROWER than '..Said'. Prove '..Said' where nothing that the law and all that it calls make is longer than what came in: it says more and counts as full. Else prove '..UptoSaid'. A law counts once. -/
mutual
def uptoBulk {H : Type} : DataW H → Nat
  | .lit (.string bytes) => bytes.length + 1
  | .lit _ => 1
  | .nil => 1
  | .ptr d => uptoBulk d + 1
  | .slice elems spare => uptoBulkAll elems + uptoBulkAll spare + 1
  | .agg parts => uptoBulkAll parts + 1
  | .iface _ d => uptoBulk d + 1
  | .map entries => uptoBulkEntries entries + 1
  | .held _ => 1
def uptoBulkAll {H : Type} : List (DataW H) → Nat
  | [] => 0
  | d :: r => uptoBulk d + uptoBulkAll r
def uptoBulkEntries {H : Type} : List (Lit × DataW H) → Nat
  | [] => 0
  | x :: r => uptoBulkEntry x + uptoBulkEntries r
def uptoBulkEntry {H : Type} : Lit × DataW H → Nat
  | (.string bytes, d) => bytes.length + uptoBulk d + 1
  | (_, d) => uptoBulk d + 1
 end
def uptoSmall : (H : Type) → List (DataW H) → Bool := fun _ ds => decide (uptoBulkAll ds ≤ 1048576)
def OpenSpec.upto (s : _root_.Go.ChangeSpec) : _root_.Go.OpenSpec := { _root_.Go.OpenSpec.ofChange s with cond := some uptoSmall }

/-- 'attestlaw10.PledgeMixes', WHERE WHAT IT READS IS OF BULK AT MOST 1048576: true; the input reads as it did. -/
def pledgeMixesUptoRow : OpenClaim := { program := "ytaajjaadlpgbiaagreatdoor", sum := "dff3332f0a63e9e6779e6b75fc2eab661ebe3399ffcc6b61361f7a7aba626a32", func := "attest/attestlaw10.PledgeMixes", spec := "pledgeMixes", inPlace := ["internal/reflectlite.ValueOf", "(internal/reflectlite.Value).Type", "(internal/reflectlite.Value).IsNil", "internal/reflectlite.TypeOf", "(internal/reflectlite.Value).Elem", "(internal/reflectlite.Value).Set"], unfollowed := true, recurses := true, named := ["errors.errorType"], apart := false, laid := [("errors.errorType", laid_errors_errorType)], narrowed := true }
def PledgeMixesUptoSaid : Prop := pledgeMixesUptoRow.holds Tryz.pinned (OpenSpec.upto pledgeMixesSpec)

/-- 'attestlaw10.GatesChecks', WHERE WHAT IT READS IS OF BULK AT MOST 1048576: true; the input reads as it did. -/
def gatesChecksUptoRow : OpenClaim := { program := "ytaajjaadlpgbiaagreatdoor", sum := "dff3332f0a63e9e6779e6b75fc2eab661ebe3399ffcc6b61361f7a7aba626a32", func := "attest/attestlaw10.GatesChecks", spec := "gatesChecks", inPlace := ["internal/reflectlite.ValueOf", "(internal/reflectlite.Value).Type", "(internal/reflectlite.Value).IsNil", "internal/reflectlite.TypeOf", "(internal/reflectlite.Value).Elem", "(internal/reflectlite.Value).Set"], unfollowed := true, recurses := true, named := ["errors.errorType"], apart := false, laid := [("errors.errorType", laid_errors_errorType)], narrowed := true }
def GatesChecksUptoSaid : Prop := gatesChecksUptoRow.holds Tryz.pinned (OpenSpec.upto gatesChecksSpec)

/-- 'attestlaw10.GatesTrue', WHERE WHAT IT READS IS OF BULK AT MOST 1048576: true; the input reads as it did. -/
def gatesTrueUptoRow : OpenClaim := { program := "ytaajjaadlpgbiaagreatdoor", sum := "dff3332f0a63e9e6779e6b75fc2eab661ebe3399ffcc6b61361f7a7aba626a32", func := "attest/attestlaw10.GatesTrue", spec := "gatesTrue", inPlace := ["internal/reflectlite.ValueOf", "(internal/reflectlite.Value).Type", "(internal/reflectlite.Value).IsNil", "internal/reflectlite.TypeOf", "(internal/reflectlite.Value).Elem", "(internal/reflectlite.Value).Set"], unfollowed := true, recurses := true, named := ["errors.errorType"], apart := false, laid := [("errors.errorType", laid_errors_errorType)], narrowed := true }
def GatesTrueUptoSaid : Prop := gatesTrueUptoRow.holds Tryz.pinned (OpenSpec.upto gatesTrueSpec)

end Rows
end Go.Proofs.YtaajjaadlpgbiaaGreatDoor
