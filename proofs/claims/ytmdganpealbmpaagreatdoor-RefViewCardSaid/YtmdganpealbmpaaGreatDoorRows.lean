/-
  NARROWER THAN 'FOR EVERY INPUT', by the rows' own cells (each row's printed sentence says how): RefOrder: laid · RefView: laid · CountRaces: laid · CountApart: laid.
  DERIVED. THE GIVEN ROWS OF THIS SEAT. 4 by the template 'for every input the law returns true; each argument reads behind the call as it read before'; 0 by the template 'total and deterministic' (their statements: YtmdganpealbmpaaGreatDoorTotals.lean).
  GIVEN WITH THE SEED: the statements are not yours to turn. If you find one false, say at which input.
  Laid BY PROGRAM, IN A SANDBOX (cutbox-rows.mjs): the forced cells as the released guide's own fill.sh prints them over the translation 4c931606cc633612… (all of the seat's roots in one cut). By AI agents, Wed Nov 11 2026. No macro, syntax, notation, axiom, sorry.
-/
import Derived.Test.YtmdganpealbmpaaGreatDoorChecked
import GoSem.Claim
import GoSem.ClaimJoined
import GoSem.ClaimMapViews
import Derived.JoinedTies
import Derived.KernelRfl
namespace Go.Proofs.YtmdganpealbmpaaGreatDoor
/- THE CELL 'sum', in the pinned program and in every row, IS THE sha256 OF THE DUMP (.gsa) THAT YtmdganpealbmpaaGreatDoorProg.lean LOADS. Nothing in Lean hashes anything: it is a label: what it is worth is what the hold of that sum in a sandbox is worth. -/
noncomputable def Tryz.pinned : Pinned := { name := "ytmdganpealbmpaagreatdoor", sum := "4c931606cc633612dc212912b66533f7e09c80694a457391c73dd768837ccc69", checked := Tryz.checked }
namespace Rows
def none {H : Type} : Left H := { results := [], args := [] }

/- WHAT THE LISTED PACKAGE-LEVEL VARIABLES READ AS WHEN THE CALL BEGINS. Each datum BY PROGRAM (the guide's laid-datum.mjs) off the statement by which the dump's own 'gosem.cut.vars' lays the variable. In a bare row this is a premise. The card (YtmdganpealbmpaaGreatDoorCards.lean) ties it to the program's text. -/
def laid_errors_errorType {H : Type} : DataW H := .iface "internal/reflectlite.rtype" (.agg [.ptr (.lit (.string [101, 114, 114, 111, 114]))])

/-- 'concordlaw13.RefOrder': WHATEVER THE INPUT: true; the input reads as it did. -/
def refOrderSpec : ChangeSpec := { name := "refOrder", fn := fun _ => fun
  | [d1, d2, d3] => { results := [.lit (.bool true)], args := [d1, d2, d3] }
  | _ => none }
def refOrderRow : OpenClaim := { program := "ytmdganpealbmpaagreatdoor", sum := "4c931606cc633612dc212912b66533f7e09c80694a457391c73dd768837ccc69", func := "concord/concordlaw13.RefOrder", spec := "refOrder", inPlace := ["internal/reflectlite.TypeOf", "internal/reflectlite.ValueOf", "(internal/reflectlite.Value).Type", "(internal/reflectlite.Value).IsNil", "(internal/reflectlite.Value).Elem", "(internal/reflectlite.Value).Set"], unfollowed := true, recurses := true, named := ["errors.errorType"], apart := false, laid := [("errors.errorType", laid_errors_errorType)] }
def RefOrderSaid : Prop := refOrderRow.holds Tryz.pinned (OpenSpec.ofChange refOrderSpec)

/-- ITS FALSE NEIGHBOUR: 'it returns false'. Refute it at one input. -/
def refOrderWrong : ChangeSpec := { name := "refOrder", fn := fun _ => fun
  | [d1, d2, d3] => { results := [.lit (.bool false)], args := [d1, d2, d3] }
  | _ => none }
def RefOrderWrongFalsely : Prop := refOrderRow.holds Tryz.pinned (OpenSpec.ofChange refOrderWrong)

/-- 'concordlaw13.RefView': WHATEVER THE INPUT: true; the input reads as it did. -/
def refViewSpec : ChangeSpec := { name := "refView", fn := fun _ => fun
  | [d1, d2, d3] => { results := [.lit (.bool true)], args := [d1, d2, d3] }
  | _ => none }
def refViewRow : OpenClaim := { program := "ytmdganpealbmpaagreatdoor", sum := "4c931606cc633612dc212912b66533f7e09c80694a457391c73dd768837ccc69", func := "concord/concordlaw13.RefView", spec := "refView", inPlace := ["internal/reflectlite.TypeOf", "internal/reflectlite.ValueOf", "(internal/reflectlite.Value).Type", "(internal/reflectlite.Value).IsNil", "(internal/reflectlite.Value).Elem", "(internal/reflectlite.Value).Set"], unfollowed := true, recurses := true, named := ["errors.errorType"], apart := false, laid := [("errors.errorType", laid_errors_errorType)] }
def RefViewSaid : Prop := refViewRow.holds Tryz.pinned (OpenSpec.ofChange refViewSpec)

/-- ITS FALSE NEIGHBOUR: 'it returns false'. Refute it at one input. -/
def refViewWrong : ChangeSpec := { name := "refView", fn := fun _ => fun
  | [d1, d2, d3] => { results := [.lit (.bool false)], args := [d1, d2, d3] }
  | _ => none }
def RefViewWrongFalsely : Prop := refViewRow.holds Tryz.pinned (OpenSpec.ofChange refViewWrong)

/-- 'concordlaw18.CountRaces': WHATEVER THE INPUT: true; the input reads as it did. -/
def countRacesSpec : ChangeSpec := { name := "countRaces", fn := fun _ => fun
  | [d1, d2] => { results := [.lit (.bool true)], args := [d1, d2] }
  | _ => none }
def countRacesRow : OpenClaim := { program := "ytmdganpealbmpaagreatdoor", sum := "4c931606cc633612dc212912b66533f7e09c80694a457391c73dd768837ccc69", func := "concord/concordlaw18.CountRaces", spec := "countRaces", inPlace := ["internal/reflectlite.TypeOf", "internal/reflectlite.ValueOf", "(internal/reflectlite.Value).Type", "(internal/reflectlite.Value).IsNil", "(internal/reflectlite.Value).Elem", "(internal/reflectlite.Value).Set"], unfollowed := true, recurses := true, named := ["errors.errorType"], apart := false, laid := [("errors.errorType", laid_errors_errorType)] }
def CountRacesSaid : Prop := countRacesRow.holds Tryz.pinned (OpenSpec.ofChange countRacesSpec)

/-- ITS FALSE NEIGHBOUR: 'it returns false'. Refute it at one input. -/
def countRacesWrong : ChangeSpec := { name := "countRaces", fn := fun _ => fun
  | [d1, d2] => { results := [.lit (.bool false)], args := [d1, d2] }
  | _ => none }
def CountRacesWrongFalsely : Prop := countRacesRow.holds Tryz.pinned (OpenSpec.ofChange countRacesWrong)

/-- 'concordlaw18.CountApart': WHATEVER THE INPUT: true; the input reads as it did. -/
def countApartSpec : ChangeSpec := { name := "countApart", fn := fun _ => fun
  | [d1, d2, d3] => { results := [.lit (.bool true)], args := [d1, d2, d3] }
  | _ => none }
def countApartRow : OpenClaim := { program := "ytmdganpealbmpaagreatdoor", sum := "4c931606cc633612dc212912b66533f7e09c80694a457391c73dd768837ccc69", func := "concord/concordlaw18.CountApart", spec := "countApart", inPlace := ["internal/reflectlite.TypeOf", "internal/reflectlite.ValueOf", "(internal/reflectlite.Value).Type", "(internal/reflectlite.Value).IsNil", "(internal/reflectlite.Value).Elem", "(internal/reflectlite.Value).Set"], unfollowed := true, recurses := true, named := ["errors.errorType"], apart := false, laid := [("errors.errorType", laid_errors_errorType)] }
def CountApartSaid : Prop := countApartRow.holds Tryz.pinned (OpenSpec.ofChange countApartSpec)

/-- ITS FALSE NEIGHBOUR: 'it returns false'. Refute it at one input. -/
def countApartWrong : ChangeSpec := { name := "countApart", fn := fun _ => fun
  | [d1, d2, d3] => { results := [.lit (.bool false)], args := [d1, d2, d3] }
  | _ => none }
def CountApartWrongFalsely : Prop := countApartRow.holds Tryz.pinned (OpenSpec.ofChange countApartWrong)

/- THE SECOND FORM. 'bulk': how many values and letters a reading holds, each counted each time it is reached (what is shared counts as often as it is met; a slice's spare places count too). A statement '..UptoSaid' is the law's where the arguments, and the package variables that the reading takes, are together of bulk at most 1048576: NARROWER than '..Said'. Prove '..Said' where nothing that the law and all that it calls make is longer than what came in: it says more and counts as full. Else prove '..UptoSaid'. A law counts once. -/
mutual
def uptoBulk {H : Type} : DataW H → Nat
  | .lit (.string bytes) => bytes.length + 1
  | .lit _ => 1
  | .nil => 1
  | .ptr d => uptoBulk d + 1
  | .slice elems spare => uptoBulkAll elems + uptoBulkAll spare + 1
  | .agg parts => uptoBulkAll parts + 1
  | .iface _ d => uptoBulk d + 1
  | .map entries => uptoBulkEntries entries + 1
  | .held _ => 1
def uptoBulkAll {H : Type} : List (DataW H) → Nat
  | [] => 0
  | d :: r => uptoBulk d + uptoBulkAll r
def uptoBulkEntries {H : Type} : List (Lit × DataW H) → Nat
  | [] => 0
  | x :: r => uptoBulkEntry x + uptoBulkEntries r
def uptoBulkEntry {H : Type} : Lit × DataW H → Nat
  | (.string bytes, d) => bytes.length + uptoBulk d + 1
  | (_, d) => uptoBulk d + 1
 end
def uptoSmall : (H : Type) → List (DataW H) → Bool := fun _ ds => decide (uptoBulkAll ds ≤ 1048576)
def OpenSpec.upto (s : _root_.Go.ChangeSpec) : _root_.Go.OpenSpec := { _root_.Go.OpenSpec.ofChange s with cond := some uptoSmall }

/-- 'concordlaw13.RefOrder', WHERE WHAT IT READS IS OF BULK AT MOST 1048576: true; the input reads as it did. -/
def refOrderUptoRow : OpenClaim := { program := "ytmdganpealbmpaagreatdoor", sum := "4c931606cc633612dc212912b66533f7e09c80694a457391c73dd768837ccc69", func := "concord/concordlaw13.RefOrder", spec := "refOrder", inPlace := ["internal/reflectlite.TypeOf", "internal/reflectlite.ValueOf", "(internal/reflectlite.Value).Type", "(internal/reflectlite.Value).IsNil", "(internal/reflectlite.Value).Elem", "(internal/reflectlite.Value).Set"], unfollowed := true, recurses := true, named := ["errors.errorType"], apart := false, laid := [("errors.errorType", laid_errors_errorType)], narrowed := true }
def RefOrderUptoSaid : Prop := refOrderUptoRow.holds Tryz.pinned (OpenSpec.upto refOrderSpec)

/-- 'concordlaw13.RefView', WHERE WHAT IT READS IS OF BULK AT MOST 1048576: true; the input reads as it did. -/
def refViewUptoRow : OpenClaim := { program := "ytmdganpealbmpaagreatdoor", sum := "4c931606cc633612dc212912b66533f7e09c80694a457391c73dd768837ccc69", func := "concord/concordlaw13.RefView", spec := "refView", inPlace := ["internal/reflectlite.TypeOf", "internal/reflectlite.ValueOf", "(internal/reflectlite.Value).Type", "(internal/reflectlite.Value).IsNil", "(internal/reflectlite.Value).Elem", "(internal/reflectlite.Value).Set"], unfollowed := true, recurses := true, named := ["errors.errorType"], apart := false, laid := [("errors.errorType", laid_errors_errorType)], narrowed := true }
def RefViewUptoSaid : Prop := refViewUptoRow.holds Tryz.pinned (OpenSpec.upto refViewSpec)

/-- 'concordlaw18.CountRaces', WHERE WHAT IT READS IS OF BULK AT MOST 1048576: true; the input reads as it did. -/
def countRacesUptoRow : OpenClaim := { program := "ytmdganpealbmpaagreatdoor", sum := "4c931606cc633612dc212912b66533f7e09c80694a457391c73dd768837ccc69", func := "concord/concordlaw18.CountRaces", spec := "countRaces", inPlace := ["internal/reflectlite.TypeOf", "internal/reflectlite.ValueOf", "(internal/reflectlite.Value).Type", "(internal/reflectlite.Value).IsNil", "(internal/reflectlite.Value).Elem", "(internal/reflectlite.Value).Set"], unfollowed := true, recurses := true, named := ["errors.errorType"], apart := false, laid := [("errors.errorType", laid_errors_errorType)], narrowed := true }
def CountRacesUptoSaid : Prop := countRacesUptoRow.holds Tryz.pinned (OpenSpec.upto countRacesSpec)

/-- 'concordlaw18.CountApart', WHERE WHAT IT READS IS OF BULK AT MOST 1048576: true; the input reads as it did. -/
def countApartUptoRow : OpenClaim := { program := "ytmdganpealbmpaagreatdoor", sum := "4c931606cc633612dc212912b66533f7e09c80694a457391c73dd768837ccc69", func := "concord/concordlaw18.CountApart", spec := "countApart", inPlace := ["internal/reflectlite.TypeOf", "internal/reflectlite.ValueOf", "(internal/reflectlite.Value).Type", "(internal/reflectlite.Value).IsNil", "(internal/reflectlite.Value).Elem", "(internal/reflectlite.Value).Set"], unfollowed := true, recurses := true, named := ["errors.errorType"], apart := false, laid := [("errors.errorType", laid_errors_errorType)], narrowed := true }
def CountApartUptoSaid : Prop := countApartUptoRow.holds Tryz.pinned (OpenSpec.upto countApartSpec)

end Rows
end Go.Proofs.YtmdganpealbmpaaGreatDoor
