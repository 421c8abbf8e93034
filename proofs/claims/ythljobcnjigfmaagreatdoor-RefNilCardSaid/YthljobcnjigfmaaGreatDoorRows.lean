/-
  NARROWER THAN 'FOR EVERY INPUT', by the rows' own cells (each row's printed sentence says how): RefNothing: laid · RefLocked: laid · RefNil: laid · RefAlone: laid · CountNil: laid · CountSums: laid · TxnNil: laid · TxnUndone: loops, laid · TxnWaits: loops, laid · TqueueNil: laid · TqueueFull: laid · TqueueAlone: laid.
  DERIVED. THE GIVEN ROWS OF THIS SEAT. 12 by the template 'for every input the law returns true; each argument reads behind the call as it read before'; 0 by the template 'total and deterministic' (their statements: YthljobcnjigfmaaGreatDoorTotals.lean).
  GIVEN WITH THE SEED: the statements are not yours to turn. If you find one false, say at which input.
  Laid BY PROGRAM, IN A SANDBOX (cutbox-rows.mjs): the forced cells as the released guide's own fill.sh prints them over the translation 05352f6e7bc4bf9d… (all of the seat's roots in one cut). By AI agents, Wed Nov 11 2026. No macro, syntax, notation, axiom, sorry.
-/
import Derived.Test.YthljobcnjigfmaaGreatDoorChecked
import GoSem.Claim
import GoSem.ClaimJoined
import GoSem.ClaimMapViews
import Derived.JoinedTies
import Derived.KernelRfl
namespace Go.Proofs.YthljobcnjigfmaaGreatDoor
/- THE CELL 'sum', in the pinned program and in every row, IS THE sha256 OF THE DUMP (.gsa) THAT YthljobcnjigfmaaGreatDoorProg.lean LOADS. Nothing in Lean hashes anything: it is a label: what it is worth is what the hold of that sum in a sandbox is worth. -/
noncomputable def Tryz.pinned : Pinned := { name := "ythljobcnjigfmaagreatdoor", sum := "05352f6e7bc4bf9d97ffd99290f0b3bb28946948643156042b4e50791c5f40d7", checked := Tryz.checked }
namespace Rows
def none {H : Type} : Left H := { results := [], args := [] }

/- WHAT THE LISTED PACKAGE-LEVEL VARIABLES READ AS WHEN THE CALL BEGINS. Each datum BY PROGRAM (the guide's laid-datum.mjs) off the statement by which the dump's own 'gosem.cut.vars' lays the variable. In a bare row this is a premise. The card (YthljobcnjigfmaaGreatDoorCards.lean) ties it to the program's text. -/
def laid_errors_errorType {H : Type} : DataW H := .iface "internal/reflectlite.rtype" (.agg [.ptr (.lit (.string [101, 114, 114, 111, 114]))])

/-- 'concordlaw13.RefNothing': WHATEVER THE INPUT: true; the input reads as it did. -/
def refNothingSpec : ChangeSpec := { name := "refNothing", fn := fun _ => fun
  | [d1, d2] => { results := [.lit (.bool true)], args := [d1, d2] }
  | _ => none }
def refNothingRow : OpenClaim := { program := "ythljobcnjigfmaagreatdoor", sum := "05352f6e7bc4bf9d97ffd99290f0b3bb28946948643156042b4e50791c5f40d7", func := "concord/concordlaw13.RefNothing", spec := "refNothing", inPlace := ["internal/reflectlite.TypeOf", "internal/reflectlite.ValueOf", "(internal/reflectlite.Value).Type", "(internal/reflectlite.Value).IsNil", "(internal/reflectlite.Value).Elem", "(internal/reflectlite.Value).Set"], unfollowed := true, recurses := true, named := ["errors.errorType"], apart := false, laid := [("errors.errorType", laid_errors_errorType)] }
def RefNothingSaid : Prop := refNothingRow.holds Tryz.pinned (OpenSpec.ofChange refNothingSpec)

/-- ITS FALSE NEIGHBOUR: 'it returns false'. Refute it at one input. -/
def refNothingWrong : ChangeSpec := { name := "refNothing", fn := fun _ => fun
  | [d1, d2] => { results := [.lit (.bool false)], args := [d1, d2] }
  | _ => none }
def RefNothingWrongFalsely : Prop := refNothingRow.holds Tryz.pinned (OpenSpec.ofChange refNothingWrong)

/-- 'concordlaw13.RefLocked': WHATEVER THE INPUT: true; the input reads as it did. -/
def refLockedSpec : ChangeSpec := { name := "refLocked", fn := fun _ => fun
  | [d] => { results := [.lit (.bool true)], args := [d] }
  | _ => none }
def refLockedRow : OpenClaim := { program := "ythljobcnjigfmaagreatdoor", sum := "05352f6e7bc4bf9d97ffd99290f0b3bb28946948643156042b4e50791c5f40d7", func := "concord/concordlaw13.RefLocked", spec := "refLocked", inPlace := ["internal/reflectlite.TypeOf", "internal/reflectlite.ValueOf", "(internal/reflectlite.Value).Type", "(internal/reflectlite.Value).IsNil", "(internal/reflectlite.Value).Elem", "(internal/reflectlite.Value).Set"], unfollowed := true, recurses := true, named := ["errors.errorType"], apart := false, laid := [("errors.errorType", laid_errors_errorType)] }
def RefLockedSaid : Prop := refLockedRow.holds Tryz.pinned (OpenSpec.ofChange refLockedSpec)

/-- ITS FALSE NEIGHBOUR: 'it returns false'. Refute it at one input. -/
def refLockedWrong : ChangeSpec := { name := "refLocked", fn := fun _ => fun
  | [d] => { results := [.lit (.bool false)], args := [d] }
  | _ => none }
def RefLockedWrongFalsely : Prop := refLockedRow.holds Tryz.pinned (OpenSpec.ofChange refLockedWrong)

/-- 'concordlaw13.RefNil': WHATEVER THE INPUT: true; the input reads as it did. -/
def refNilSpec : ChangeSpec := { name := "refNil", fn := fun _ => fun
  | [d1, d2] => { results := [.lit (.bool true)], args := [d1, d2] }
  | _ => none }
def refNilRow : OpenClaim := { program := "ythljobcnjigfmaagreatdoor", sum := "05352f6e7bc4bf9d97ffd99290f0b3bb28946948643156042b4e50791c5f40d7", func := "concord/concordlaw13.RefNil", spec := "refNil", inPlace := ["internal/reflectlite.ValueOf", "(internal/reflectlite.Value).Type", "(internal/reflectlite.Value).IsNil", "internal/reflectlite.TypeOf", "(internal/reflectlite.Value).Elem", "(internal/reflectlite.Value).Set"], unfollowed := true, recurses := true, named := ["errors.errorType"], apart := false, laid := [("errors.errorType", laid_errors_errorType)] }
def RefNilSaid : Prop := refNilRow.holds Tryz.pinned (OpenSpec.ofChange refNilSpec)

/-- ITS FALSE NEIGHBOUR: 'it returns false'. Refute it at one input. -/
def refNilWrong : ChangeSpec := { name := "refNil", fn := fun _ => fun
  | [d1, d2] => { results := [.lit (.bool false)], args := [d1, d2] }
  | _ => none }
def RefNilWrongFalsely : Prop := refNilRow.holds Tryz.pinned (OpenSpec.ofChange refNilWrong)

/-- 'concordlaw13.RefAlone': WHATEVER THE INPUT: true; the input reads as it did. -/
def refAloneSpec : ChangeSpec := { name := "refAlone", fn := fun _ => fun
  | [d1, d2] => { results := [.lit (.bool true)], args := [d1, d2] }
  | _ => none }
def refAloneRow : OpenClaim := { program := "ythljobcnjigfmaagreatdoor", sum := "05352f6e7bc4bf9d97ffd99290f0b3bb28946948643156042b4e50791c5f40d7", func := "concord/concordlaw13.RefAlone", spec := "refAlone", inPlace := ["internal/reflectlite.TypeOf", "internal/reflectlite.ValueOf", "(internal/reflectlite.Value).Type", "(internal/reflectlite.Value).IsNil", "(internal/reflectlite.Value).Elem", "(internal/reflectlite.Value).Set"], unfollowed := true, recurses := true, named := ["errors.errorType"], apart := false, laid := [("errors.errorType", laid_errors_errorType)] }
def RefAloneSaid : Prop := refAloneRow.holds Tryz.pinned (OpenSpec.ofChange refAloneSpec)

/-- ITS FALSE NEIGHBOUR: 'it returns false'. Refute it at one input. -/
def refAloneWrong : ChangeSpec := { name := "refAlone", fn := fun _ => fun
  | [d1, d2] => { results := [.lit (.bool false)], args := [d1, d2] }
  | _ => none }
def RefAloneWrongFalsely : Prop := refAloneRow.holds Tryz.pinned (OpenSpec.ofChange refAloneWrong)

/-- 'concordlaw18.CountNil': WHATEVER THE INPUT: true; the input reads as it did. -/
def countNilSpec : ChangeSpec := { name := "countNil", fn := fun _ => fun
  | [d1, d2] => { results := [.lit (.bool true)], args := [d1, d2] }
  | _ => none }
def countNilRow : OpenClaim := { program := "ythljobcnjigfmaagreatdoor", sum := "05352f6e7bc4bf9d97ffd99290f0b3bb28946948643156042b4e50791c5f40d7", func := "concord/concordlaw18.CountNil", spec := "countNil", inPlace := ["internal/reflectlite.TypeOf", "internal/reflectlite.ValueOf", "(internal/reflectlite.Value).Type", "(internal/reflectlite.Value).IsNil", "(internal/reflectlite.Value).Elem", "(internal/reflectlite.Value).Set"], unfollowed := true, recurses := true, named := ["errors.errorType"], apart := false, laid := [("errors.errorType", laid_errors_errorType)] }
def CountNilSaid : Prop := countNilRow.holds Tryz.pinned (OpenSpec.ofChange countNilSpec)

/-- ITS FALSE NEIGHBOUR: 'it returns false'. Refute it at one input. -/
def countNilWrong : ChangeSpec := { name := "countNil", fn := fun _ => fun
  | [d1, d2] => { results := [.lit (.bool false)], args := [d1, d2] }
  | _ => none }
def CountNilWrongFalsely : Prop := countNilRow.holds Tryz.pinned (OpenSpec.ofChange countNilWrong)

/-- 'concordlaw18.CountSums': WHATEVER THE INPUT: true; the input reads as it did. -/
def countSumsSpec : ChangeSpec := { name := "countSums", fn := fun _ => fun
  | [d1, d2] => { results := [.lit (.bool true)], args := [d1, d2] }
  | _ => none }
def countSumsRow : OpenClaim := { program := "ythljobcnjigfmaagreatdoor", sum := "05352f6e7bc4bf9d97ffd99290f0b3bb28946948643156042b4e50791c5f40d7", func := "concord/concordlaw18.CountSums", spec := "countSums", inPlace := ["internal/reflectlite.TypeOf", "internal/reflectlite.ValueOf", "(internal/reflectlite.Value).Type", "(internal/reflectlite.Value).IsNil", "(internal/reflectlite.Value).Elem", "(internal/reflectlite.Value).Set"], unfollowed := true, recurses := true, named := ["errors.errorType"], apart := false, laid := [("errors.errorType", laid_errors_errorType)] }
def CountSumsSaid : Prop := countSumsRow.holds Tryz.pinned (OpenSpec.ofChange countSumsSpec)

/-- ITS FALSE NEIGHBOUR: 'it returns false'. Refute it at one input. -/
def countSumsWrong : ChangeSpec := { name := "countSums", fn := fun _ => fun
  | [d1, d2] => { results := [.lit (.bool false)], args := [d1, d2] }
  | _ => none }
def CountSumsWrongFalsely : Prop := countSumsRow.holds Tryz.pinned (OpenSpec.ofChange countSumsWrong)

/-- 'concordlaw14.TxnNil': WHATEVER THE INPUT: true; the input reads as it did. -/
def txnNilSpec : ChangeSpec := { name := "txnNil", fn := fun _ => fun
  | [d1, d2] => { results := [.lit (.bool true)], args := [d1, d2] }
  | _ => none }
def txnNilRow : OpenClaim := { program := "ythljobcnjigfmaagreatdoor", sum := "05352f6e7bc4bf9d97ffd99290f0b3bb28946948643156042b4e50791c5f40d7", func := "concord/concordlaw14.TxnNil", spec := "txnNil", inPlace := ["internal/reflectlite.ValueOf", "(internal/reflectlite.Value).Type", "(internal/reflectlite.Value).IsNil", "internal/reflectlite.TypeOf", "(internal/reflectlite.Value).Elem", "(internal/reflectlite.Value).Set"], unfollowed := true, recurses := true, named := ["errors.errorType"], apart := false, laid := [("errors.errorType", laid_errors_errorType)] }
def TxnNilSaid : Prop := txnNilRow.holds Tryz.pinned (OpenSpec.ofChange txnNilSpec)

/-- ITS FALSE NEIGHBOUR: 'it returns false'. Refute it at one input. -/
def txnNilWrong : ChangeSpec := { name := "txnNil", fn := fun _ => fun
  | [d1, d2] => { results := [.lit (.bool false)], args := [d1, d2] }
  | _ => none }
def TxnNilWrongFalsely : Prop := txnNilRow.holds Tryz.pinned (OpenSpec.ofChange txnNilWrong)

/-- 'concordlaw14.TxnUndone': WHATEVER THE INPUT: true; the input reads as it did. -/
def txnUndoneSpec : ChangeSpec := { name := "txnUndone", fn := fun _ => fun
  | [d1, d2, d3, d4] => { results := [.lit (.bool true)], args := [d1, d2, d3, d4] }
  | _ => none }
def txnUndoneRow : OpenClaim := { program := "ythljobcnjigfmaagreatdoor", sum := "05352f6e7bc4bf9d97ffd99290f0b3bb28946948643156042b4e50791c5f40d7", func := "concord/concordlaw14.TxnUndone", spec := "txnUndone", inPlace := ["internal/reflectlite.TypeOf", "internal/reflectlite.ValueOf", "(internal/reflectlite.Value).Type", "(internal/reflectlite.Value).IsNil", "(internal/reflectlite.Value).Elem", "(internal/reflectlite.Value).Set"], unfollowed := true, recurses := true, named := ["errors.errorType"], loops := true, apart := false, laid := [("errors.errorType", laid_errors_errorType)] }
def TxnUndoneSaid : Prop := txnUndoneRow.holds Tryz.pinned (OpenSpec.ofChange txnUndoneSpec)

/-- ITS FALSE NEIGHBOUR: 'it returns false'. Refute it at one input. -/
def txnUndoneWrong : ChangeSpec := { name := "txnUndone", fn := fun _ => fun
  | [d1, d2, d3, d4] => { results := [.lit (.bool false)], args := [d1, d2, d3, d4] }
  | _ => none }
def TxnUndoneWrongFalsely : Prop := txnUndoneRow.holds Tryz.pinned (OpenSpec.ofChange txnUndoneWrong)

/-- 'concordlaw14.TxnWaits': WHATEVER THE INPUT: true; the input reads as it did. -/
def txnWaitsSpec : ChangeSpec := { name := "txnWaits", fn := fun _ => fun
  | [d1, d2] => { results := [.lit (.bool true)], args := [d1, d2] }
  | _ => none }
def txnWaitsRow : OpenClaim := { program := "ythljobcnjigfmaagreatdoor", sum := "05352f6e7bc4bf9d97ffd99290f0b3bb28946948643156042b4e50791c5f40d7", func := "concord/concordlaw14.TxnWaits", spec := "txnWaits", inPlace := ["internal/reflectlite.TypeOf", "internal/reflectlite.ValueOf", "(internal/reflectlite.Value).Type", "(internal/reflectlite.Value).IsNil", "(internal/reflectlite.Value).Elem", "(internal/reflectlite.Value).Set"], unfollowed := true, recurses := true, named := ["errors.errorType"], loops := true, apart := false, laid := [("errors.errorType", laid_errors_errorType)] }
def TxnWaitsSaid : Prop := txnWaitsRow.holds Tryz.pinned (OpenSpec.ofChange txnWaitsSpec)

/-- ITS FALSE NEIGHBOUR: 'it returns false'. Refute it at one input. -/
def txnWaitsWrong : ChangeSpec := { name := "txnWaits", fn := fun _ => fun
  | [d1, d2] => { results := [.lit (.bool false)], args := [d1, d2] }
  | _ => none }
def TxnWaitsWrongFalsely : Prop := txnWaitsRow.holds Tryz.pinned (OpenSpec.ofChange txnWaitsWrong)

/-- 'concordlaw29.TqueueNil': WHATEVER THE INPUT: true; the input reads as it did. -/
def tqueueNilSpec : ChangeSpec := { name := "tqueueNil", fn := fun _ => fun
  | [d1, d2] => { results := [.lit (.bool true)], args := [d1, d2] }
  | _ => none }
def tqueueNilRow : OpenClaim := { program := "ythljobcnjigfmaagreatdoor", sum := "05352f6e7bc4bf9d97ffd99290f0b3bb28946948643156042b4e50791c5f40d7", func := "concord/concordlaw29.TqueueNil", spec := "tqueueNil", inPlace := ["internal/reflectlite.ValueOf", "(internal/reflectlite.Value).Type", "(internal/reflectlite.Value).IsNil", "internal/reflectlite.TypeOf", "(internal/reflectlite.Value).Elem", "(internal/reflectlite.Value).Set"], unfollowed := true, recurses := true, named := ["errors.errorType"], apart := false, laid := [("errors.errorType", laid_errors_errorType)] }
def TqueueNilSaid : Prop := tqueueNilRow.holds Tryz.pinned (OpenSpec.ofChange tqueueNilSpec)

/-- ITS FALSE NEIGHBOUR: 'it returns false'. Refute it at one input. -/
def tqueueNilWrong : ChangeSpec := { name := "tqueueNil", fn := fun _ => fun
  | [d1, d2] => { results := [.lit (.bool false)], args := [d1, d2] }
  | _ => none }
def TqueueNilWrongFalsely : Prop := tqueueNilRow.holds Tryz.pinned (OpenSpec.ofChange tqueueNilWrong)

/-- 'concordlaw29.TqueueFull': WHATEVER THE INPUT: true; the input reads as it did. -/
def tqueueFullSpec : ChangeSpec := { name := "tqueueFull", fn := fun _ => fun
  | [d] => { results := [.lit (.bool true)], args := [d] }
  | _ => none }
def tqueueFullRow : OpenClaim := { program := "ythljobcnjigfmaagreatdoor", sum := "05352f6e7bc4bf9d97ffd99290f0b3bb28946948643156042b4e50791c5f40d7", func := "concord/concordlaw29.TqueueFull", spec := "tqueueFull", inPlace := ["internal/reflectlite.TypeOf", "internal/reflectlite.ValueOf", "(internal/reflectlite.Value).Type", "(internal/reflectlite.Value).IsNil", "(internal/reflectlite.Value).Elem", "(internal/reflectlite.Value).Set"], unfollowed := true, recurses := true, named := ["errors.errorType"], apart := false, laid := [("errors.errorType", laid_errors_errorType)] }
def TqueueFullSaid : Prop := tqueueFullRow.holds Tryz.pinned (OpenSpec.ofChange tqueueFullSpec)

/-- ITS FALSE NEIGHBOUR: 'it returns false'. Refute it at one input. -/
def tqueueFullWrong : ChangeSpec := { name := "tqueueFull", fn := fun _ => fun
  | [d] => { results := [.lit (.bool false)], args := [d] }
  | _ => none }
def TqueueFullWrongFalsely : Prop := tqueueFullRow.holds Tryz.pinned (OpenSpec.ofChange tqueueFullWrong)

/-- 'concordlaw29.TqueueAlone': WHATEVER THE INPUT: true; the input reads as it did. -/
def tqueueAloneSpec : ChangeSpec := { name := "tqueueAlone", fn := fun _ => fun
  | [d1, d2, d3] => { results := [.lit (.bool true)], args := [d1, d2, d3] }
  | _ => none }
def tqueueAloneRow : OpenClaim := { program := "ythljobcnjigfmaagreatdoor", sum := "05352f6e7bc4bf9d97ffd99290f0b3bb28946948643156042b4e50791c5f40d7", func := "concord/concordlaw29.TqueueAlone", spec := "tqueueAlone", inPlace := ["internal/reflectlite.TypeOf", "internal/reflectlite.ValueOf", "(internal/reflectlite.Value).Type", "(internal/reflectlite.Value).IsNil", "(internal/reflectlite.Value).Elem", "(internal/reflectlite.Value).Set"], unfollowed := true, recurses := true, named := ["errors.errorType"], apart := false, laid := [("errors.errorType", laid_errors_errorType)] }
def TqueueAloneSaid : Prop := tqueueAloneRow.holds Tryz.pinned (OpenSpec.ofChange tqueueAloneSpec)

/-- ITS FALSE NEIGHBOUR: 'it returns false'. Refute it at one input. -/
def tqueueAloneWrong : ChangeSpec := { name := "tqueueAlone", fn := fun _ => fun
  | [d1, d2, d3] => { results := [.lit (.bool false)], args := [d1, d2, d3] }
  | _ => none }
def TqueueAloneWrongFalsely : Prop := tqueueAloneRow.holds Tryz.pinned (OpenSpec.ofChange tqueueAloneWrong)

/- THE SECOND FORM. 'bulk': how many values and letters a reading holds, each counted each time it is reached (what is shared counts as often as it is met; a slice's spare places count too). A statement '..UptoSaid' is the law's where the arguments, and the package variables that the reading takes, are together of bulk at most 1048576: NARROWER than '..Said'. Prove '..Said' where nothing that the law and all that it calls make is longer than what came in: it says more and counts as full. Else prove '..UptoSaid'. A law counts once. -/
mutual
def uptoBulk {H : Type} : DataW H → Nat
  | .lit (.string bytes) => bytes.length + 1
  | .lit _ => 1
  | .nil => 1
  | .ptr d => uptoBulk d + 1
  | .slice elems spare => uptoBulkAll elems + uptoBulkAll spare + 1
  | .agg parts => uptoBulkAll parts + 1
  | .iface _ d => uptoBulk d + 1
  | .map entries => uptoBulkEntries entries + 1
  | .held _ => 1
def uptoBulkAll {H : Type} : List (DataW H) → Nat
  | [] => 0
  | d :: r => uptoBulk d + uptoBulkAll r
def uptoBulkEntries {H : Type} : List (Lit × DataW H) → Nat
  | [] => 0
  | x :: r => uptoBulkEntry x + uptoBulkEntries r
def uptoBulkEntry {H : Type} : Lit × DataW H → Nat
  | (.string bytes, d) => bytes.length + uptoBulk d + 1
  | (_, d) => uptoBulk d + 1
 end
def uptoSmall : (H : Type) → List (DataW H) → Bool := fun _ ds => decide (uptoBulkAll ds ≤ 1048576)
def OpenSpec.upto (s : _root_.Go.ChangeSpec) : _root_.Go.OpenSpec := { _root_.Go.OpenSpec.ofChange s with cond := some uptoSmall }

/-- 'concordlaw13.RefNothing', WHERE WHAT IT READS IS OF BULK AT MOST 1048576: true; the input reads as it did. -/
def refNothingUptoRow : OpenClaim := { program := "ythljobcnjigfmaagreatdoor", sum := "05352f6e7bc4bf9d97ffd99290f0b3bb28946948643156042b4e50791c5f40d7", func := "concord/concordlaw13.RefNothing", spec := "refNothing", inPlace := ["internal/reflectlite.TypeOf", "internal/reflectlite.ValueOf", "(internal/reflectlite.Value).Type", "(internal/reflectlite.Value).IsNil", "(internal/reflectlite.Value).Elem", "(internal/reflectlite.Value).Set"], unfollowed := true, recurses := true, named := ["errors.errorType"], apart := false, laid := [("errors.errorType", laid_errors_errorType)], narrowed := true }
def RefNothingUptoSaid : Prop := refNothingUptoRow.holds Tryz.pinned (OpenSpec.upto refNothingSpec)

/-- 'concordlaw13.RefLocked', WHERE WHAT IT READS IS OF BULK AT MOST 1048576: true; the input reads as it did. -/
def refLockedUptoRow : OpenClaim := { program := "ythljobcnjigfmaagreatdoor", sum := "05352f6e7bc4bf9d97ffd99290f0b3bb28946948643156042b4e50791c5f40d7", func := "concord/concordlaw13.RefLocked", spec := "refLocked", inPlace := ["internal/reflectlite.TypeOf", "internal/reflectlite.ValueOf", "(internal/reflectlite.Value).Type", "(internal/reflectlite.Value).IsNil", "(internal/reflectlite.Value).Elem", "(internal/reflectlite.Value).Set"], unfollowed := true, recurses := true, named := ["errors.errorType"], apart := false, laid := [("errors.errorType", laid_errors_errorType)], narrowed := true }
def RefLockedUptoSaid : Prop := refLockedUptoRow.holds Tryz.pinned (OpenSpec.upto refLockedSpec)

/-- 'concordlaw13.RefNil', WHERE WHAT IT READS IS OF BULK AT MOST 1048576: true; the input reads as it did. -/
def refNilUptoRow : OpenClaim := { program := "ythljobcnjigfmaagreatdoor", sum := "05352f6e7bc4bf9d97ffd99290f0b3bb28946948643156042b4e50791c5f40d7", func := "concord/concordlaw13.RefNil", spec := "refNil", inPlace := ["internal/reflectlite.ValueOf", "(internal/reflectlite.Value).Type", "(internal/reflectlite.Value).IsNil", "internal/reflectlite.TypeOf", "(internal/reflectlite.Value).Elem", "(internal/reflectlite.Value).Set"], unfollowed := true, recurses := true, named := ["errors.errorType"], apart := false, laid := [("errors.errorType", laid_errors_errorType)], narrowed := true }
def RefNilUptoSaid : Prop := refNilUptoRow.holds Tryz.pinned (OpenSpec.upto refNilSpec)

/-- 'concordlaw13.RefAlone', WHERE WHAT IT READS IS OF BULK AT MOST 1048576: true; the input reads as it did. -/
def refAloneUptoRow : OpenClaim := { program := "ythljobcnjigfmaagreatdoor", sum := "05352f6e7bc4bf9d97ffd99290f0b3bb28946948643156042b4e50791c5f40d7", func := "concord/concordlaw13.RefAlone", spec := "refAlone", inPlace := ["internal/reflectlite.TypeOf", "internal/reflectlite.ValueOf", "(internal/reflectlite.Value).Type", "(internal/reflectlite.Value).IsNil", "(internal/reflectlite.Value).Elem", "(internal/reflectlite.Value).Set"], unfollowed := true, recurses := true, named := ["errors.errorType"], apart := false, laid := [("errors.errorType", laid_errors_errorType)], narrowed := true }
def RefAloneUptoSaid : Prop := refAloneUptoRow.holds Tryz.pinned (OpenSpec.upto refAloneSpec)

/-- 'concordlaw18.CountNil', WHERE WHAT IT READS IS OF BULK AT MOST 1048576: true; the input reads as it did. -/
def countNilUptoRow : OpenClaim := { program := "ythljobcnjigfmaagreatdoor", sum := "05352f6e7bc4bf9d97ffd99290f0b3bb28946948643156042b4e50791c5f40d7", func := "concord/concordlaw18.CountNil", spec := "countNil", inPlace := ["internal/reflectlite.TypeOf", "internal/reflectlite.ValueOf", "(internal/reflectlite.Value).Type", "(internal/reflectlite.Value).IsNil", "(internal/reflectlite.Value).Elem", "(internal/reflectlite.Value).Set"], unfollowed := true, recurses := true, named := ["errors.errorType"], apart := false, laid := [("errors.errorType", laid_errors_errorType)], narrowed := true }
def CountNilUptoSaid : Prop := countNilUptoRow.holds Tryz.pinned (OpenSpec.upto countNilSpec)

/-- 'concordlaw18.CountSums', WHERE WHAT IT READS IS OF BULK AT MOST 1048576: true; the input reads as it did. -/
def countSumsUptoRow : OpenClaim := { program := "ythljobcnjigfmaagreatdoor", sum := "05352f6e7bc4bf9d97ffd99290f0b3bb28946948643156042b4e50791c5f40d7", func := "concord/concordlaw18.CountSums", spec := "countSums", inPlace := ["internal/reflectlite.TypeOf", "internal/reflectlite.ValueOf", "(internal/reflectlite.Value).Type", "(internal/reflectlite.Value).IsNil", "(internal/reflectlite.Value).Elem", "(internal/reflectlite.Value).Set"], unfollowed := true, recurses := true, named := ["errors.errorType"], apart := false, laid := [("errors.errorType", laid_errors_errorType)], narrowed := true }
def CountSumsUptoSaid : Prop := countSumsUptoRow.holds Tryz.pinned (OpenSpec.upto countSumsSpec)

/-- 'concordlaw14.TxnNil', WHERE WHAT IT READS IS OF BULK AT MOST 1048576: true; the input reads as it did. -/
def txnNilUptoRow : OpenClaim := { program := "ythljobcnjigfmaagreatdoor", sum := "05352f6e7bc4bf9d97ffd99290f0b3bb28946948643156042b4e50791c5f40d7", func := "concord/concordlaw14.TxnNil", spec := "txnNil", inPlace := ["internal/reflectlite.ValueOf", "(internal/reflectlite.Value).Type", "(internal/reflectlite.Value).IsNil", "internal/reflectlite.TypeOf", "(internal/reflectlite.Value).Elem", "(internal/reflectlite.Value).Set"], unfollowed := true, recurses := true, named := ["errors.errorType"], apart := false, laid := [("errors.errorType", laid_errors_errorType)], narrowed := true }
def TxnNilUptoSaid : Prop := txnNilUptoRow.holds Tryz.pinned (OpenSpec.upto txnNilSpec)

/-- 'concordlaw14.TxnUndone', WHERE WHAT IT READS IS OF BULK AT MOST 1048576: true; the input reads as it did. -/
def txnUndoneUptoRow : OpenClaim := { program := "ythljobcnjigfmaagreatdoor", sum := "05352f6e7bc4bf9d97ffd99290f0b3bb28946948643156042b4e50791c5f40d7", func := "concord/concordlaw14.TxnUndone", spec := "txnUndone", inPlace := ["internal/reflectlite.TypeOf", "internal/reflectlite.ValueOf", "(internal/reflectlite.Value).Type", "(internal/reflectlite.Value).IsNil", "(internal/reflectlite.Value).Elem", "(internal/reflectlite.Value).Set"], unfollowed := true, recurses := true, named := ["errors.errorType"], loops := true, apart := false, laid := [("errors.errorType", laid_errors_errorType)], narrowed := true }
def TxnUndoneUptoSaid : Prop := txnUndoneUptoRow.holds Tryz.pinned (OpenSpec.upto txnUndoneSpec)

/-- 'concordlaw14.TxnWaits', WHERE WHAT IT READS IS OF BULK AT MOST 1048576: true; the input reads as it did. -/
def txnWaitsUptoRow : OpenClaim := { program := "ythljobcnjigfmaagreatdoor", sum := "05352f6e7bc4bf9d97ffd99290f0b3bb28946948643156042b4e50791c5f40d7", func := "concord/concordlaw14.TxnWaits", spec := "txnWaits", inPlace := ["internal/reflectlite.TypeOf", "internal/reflectlite.ValueOf", "(internal/reflectlite.Value).Type", "(internal/reflectlite.Value).IsNil", "(internal/reflectlite.Value).Elem", "(internal/reflectlite.Value).Set"], unfollowed := true, recurses := true, named := ["errors.errorType"], loops := true, apart := false, laid := [("errors.errorType", laid_errors_errorType)], narrowed := true }
def TxnWaitsUptoSaid : Prop := txnWaitsUptoRow.holds Tryz.pinned (OpenSpec.upto txnWaitsSpec)

/-- 'concordlaw29.TqueueNil', WHERE WHAT IT READS IS OF BULK AT MOST 1048576: true; the input reads as it did. -/
def tqueueNilUptoRow : OpenClaim := { program := "ythljobcnjigfmaagreatdoor", sum := "05352f6e7bc4bf9d97ffd99290f0b3bb28946948643156042b4e50791c5f40d7", func := "concord/concordlaw29.TqueueNil", spec := "tqueueNil", inPlace := ["internal/reflectlite.ValueOf", "(internal/reflectlite.Value).Type", "(internal/reflectlite.Value).IsNil", "internal/reflectlite.TypeOf", "(internal/reflectlite.Value).Elem", "(internal/reflectlite.Value).Set"], unfollowed := true, recurses := true, named := ["errors.errorType"], apart := false, laid := [("errors.errorType", laid_errors_errorType)], narrowed := true }
def TqueueNilUptoSaid : Prop := tqueueNilUptoRow.holds Tryz.pinned (OpenSpec.upto tqueueNilSpec)

/-- 'concordlaw29.TqueueFull', WHERE WHAT IT READS IS OF BULK AT MOST 1048576: true; the input reads as it did. -/
def tqueueFullUptoRow : OpenClaim := { program := "ythljobcnjigfmaagreatdoor", sum := "05352f6e7bc4bf9d97ffd99290f0b3bb28946948643156042b4e50791c5f40d7", func := "concord/concordlaw29.TqueueFull", spec := "tqueueFull", inPlace := ["internal/reflectlite.TypeOf", "internal/reflectlite.ValueOf", "(internal/reflectlite.Value).Type", "(internal/reflectlite.Value).IsNil", "(internal/reflectlite.Value).Elem", "(internal/reflectlite.Value).Set"], unfollowed := true, recurses := true, named := ["errors.errorType"], apart := false, laid := [("errors.errorType", laid_errors_errorType)], narrowed := true }
def TqueueFullUptoSaid : Prop := tqueueFullUptoRow.holds Tryz.pinned (OpenSpec.upto tqueueFullSpec)

/-- 'concordlaw29.TqueueAlone', WHERE WHAT IT READS IS OF BULK AT MOST 1048576: true; the input reads as it did. -/
def tqueueAloneUptoRow : OpenClaim := { program := "ythljobcnjigfmaagreatdoor", sum := "05352f6e7bc4bf9d97ffd99290f0b3bb28946948643156042b4e50791c5f40d7", func := "concord/concordlaw29.TqueueAlone", spec := "tqueueAlone", inPlace := ["internal/reflectlite.TypeOf", "internal/reflectlite.ValueOf", "(internal/reflectlite.Value).Type", "(internal/reflectlite.Value).IsNil", "(internal/reflectlite.Value).Elem", "(internal/reflectlite.Value).Set"], unfollowed := true, recurses := true, named := ["errors.errorType"], apart := false, laid := [("errors.errorType", laid_errors_errorType)], narrowed := true }
def TqueueAloneUptoSaid : Prop := tqueueAloneUptoRow.holds Tryz.pinned (OpenSpec.upto tqueueAloneSpec)

end Rows
end Go.Proofs.YthljobcnjigfmaaGreatDoor
