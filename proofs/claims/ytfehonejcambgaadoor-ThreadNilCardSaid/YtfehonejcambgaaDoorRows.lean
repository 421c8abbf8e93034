/-
  NARROWER THAN 'FOR EVERY INPUT', by the rows' own cells (each row's printed sentence says how): ThreadNil: laid · BlocksRoom: laid · BlocksApart: laid · BlocksStale: laid · BlocksNil: laid.
  DERIVED. THE GIVEN ROWS OF THIS SEAT. 5 by the template 'for every input the law returns true; each argument reads behind the call as it read before'; 0 by the template 'total and deterministic' (their statements: YtfehonejcambgaaDoorTotals.lean).
  GIVEN WITH THE SEED: the statements are not yours to turn. If you find one false, say at which input.
  Laid BY PROGRAM, IN A SANDBOX (cutbox-rows.mjs): the forced cells as the released guide's own fill.sh prints them over the translation 91a28aa4bb393d19… (all of the seat's roots in one cut). By AI agents, Wed Nov 11 2026. No macro, syntax, notation, axiom, sorry.
-/
import Derived.Test.YtfehonejcambgaaDoorChecked
import GoSem.Claim
import GoSem.ClaimJoined
import GoSem.ClaimMapViews
import Derived.JoinedTies
import Derived.KernelRfl
namespace Go.Proofs.YtfehonejcambgaaDoor
/- THE CELL 'sum', in the pinned program and in every row, IS THE sha256 OF THE DUMP (.gsa) THAT YtfehonejcambgaaDoorProg.lean LOADS. Nothing in Lean hashes anything: it is a label: what it is worth is what the hold of that sum in a sandbox is worth. -/
noncomputable def Tryd.pinned : Pinned := { name := "ytfehonejcambgaadoor", sum := "91a28aa4bb393d194d18d5a8fe5be6146d1ecfc218db3aaf686bb390c1d7ea17", checked := Tryd.checked }
namespace Rows
def none {H : Type} : Left H := { results := [], args := [] }

/- WHAT THE LISTED PACKAGE-LEVEL VARIABLES READ AS WHEN THE CALL BEGINS. Each datum BY PROGRAM (the guide's laid-datum.mjs) off the statement by which the dump's own 'gosem.cut.vars' lays the variable. In a bare row this is a premise. The card (YtfehonejcambgaaDoorCards.lean) ties it to the program's text. -/
def laid_errors_errorType {H : Type} : DataW H := .iface "internal/reflectlite.rtype" (.agg [.ptr (.lit (.string [101, 114, 114, 111, 114]))])

/-- 'concordlaw05.ThreadNil': WHATEVER THE INPUT: true; the input reads as it did. -/
def threadNilSpec : ChangeSpec := { name := "threadNil", fn := fun _ => fun
  | [d1, d2, d3] => { results := [.lit (.bool true)], args := [d1, d2, d3] }
  | _ => none }
def threadNilRow : OpenClaim := { program := "ytfehonejcambgaadoor", sum := "91a28aa4bb393d194d18d5a8fe5be6146d1ecfc218db3aaf686bb390c1d7ea17", func := "concord/concordlaw05.ThreadNil", spec := "threadNil", inPlace := ["internal/reflectlite.TypeOf", "internal/reflectlite.ValueOf", "(internal/reflectlite.Value).Type", "(internal/reflectlite.Value).IsNil", "(internal/reflectlite.Value).Elem", "(internal/reflectlite.Value).Set"], unfollowed := true, recurses := true, named := ["errors.errorType"], apart := false, laid := [("errors.errorType", laid_errors_errorType)] }
def ThreadNilSaid : Prop := threadNilRow.holds Tryd.pinned (OpenSpec.ofChange threadNilSpec)

/-- ITS FALSE NEIGHBOUR: 'it returns false'. Refute it at one input. -/
def threadNilWrong : ChangeSpec := { name := "threadNil", fn := fun _ => fun
  | [d1, d2, d3] => { results := [.lit (.bool false)], args := [d1, d2, d3] }
  | _ => none }
def ThreadNilWrongFalsely : Prop := threadNilRow.holds Tryd.pinned (OpenSpec.ofChange threadNilWrong)

/-- 'concordlaw02.BlocksRoom': WHATEVER THE INPUT: true; the input reads as it did. -/
def blocksRoomSpec : ChangeSpec := { name := "blocksRoom", fn := fun _ => fun
  | [d1, d2] => { results := [.lit (.bool true)], args := [d1, d2] }
  | _ => none }
def blocksRoomRow : OpenClaim := { program := "ytfehonejcambgaadoor", sum := "91a28aa4bb393d194d18d5a8fe5be6146d1ecfc218db3aaf686bb390c1d7ea17", func := "concord/concordlaw02.BlocksRoom", spec := "blocksRoom", inPlace := ["internal/reflectlite.TypeOf", "internal/reflectlite.ValueOf", "(internal/reflectlite.Value).Type", "(internal/reflectlite.Value).IsNil", "(internal/reflectlite.Value).Elem", "(internal/reflectlite.Value).Set"], unfollowed := true, recurses := true, named := ["errors.errorType"], apart := false, laid := [("errors.errorType", laid_errors_errorType)] }
def BlocksRoomSaid : Prop := blocksRoomRow.holds Tryd.pinned (OpenSpec.ofChange blocksRoomSpec)

/-- ITS FALSE NEIGHBOUR: 'it returns false'. Refute it at one input. -/
def blocksRoomWrong : ChangeSpec := { name := "blocksRoom", fn := fun _ => fun
  | [d1, d2] => { results := [.lit (.bool false)], args := [d1, d2] }
  | _ => none }
def BlocksRoomWrongFalsely : Prop := blocksRoomRow.holds Tryd.pinned (OpenSpec.ofChange blocksRoomWrong)

/-- 'concordlaw02.BlocksApart': WHATEVER THE INPUT: true; the input reads as it did. -/
def blocksApartSpec : ChangeSpec := { name := "blocksApart", fn := fun _ => fun
  | [d1, d2] => { results := [.lit (.bool true)], args := [d1, d2] }
  | _ => none }
def blocksApartRow : OpenClaim := { program := "ytfehonejcambgaadoor", sum := "91a28aa4bb393d194d18d5a8fe5be6146d1ecfc218db3aaf686bb390c1d7ea17", func := "concord/concordlaw02.BlocksApart", spec := "blocksApart", inPlace := ["internal/reflectlite.TypeOf", "internal/reflectlite.ValueOf", "(internal/reflectlite.Value).Type", "(internal/reflectlite.Value).IsNil", "(internal/reflectlite.Value).Elem", "(internal/reflectlite.Value).Set"], unfollowed := true, recurses := true, named := ["errors.errorType"], apart := false, laid := [("errors.errorType", laid_errors_errorType)] }
def BlocksApartSaid : Prop := blocksApartRow.holds Tryd.pinned (OpenSpec.ofChange blocksApartSpec)

/-- ITS FALSE NEIGHBOUR: 'it returns false'. Refute it at one input. -/
def blocksApartWrong : ChangeSpec := { name := "blocksApart", fn := fun _ => fun
  | [d1, d2] => { results := [.lit (.bool false)], args := [d1, d2] }
  | _ => none }
def BlocksApartWrongFalsely : Prop := blocksApartRow.holds Tryd.pinned (OpenSpec.ofChange blocksApartWrong)

/-- 'concordlaw02.BlocksStale': WHATEVER THE INPUT: true; the input reads as it did. -/
def blocksStaleSpec : ChangeSpec := { name := "blocksStale", fn := fun _ => fun
  | [d1, d2] => { results := [.lit (.bool true)], args := [d1, d2] }
  | _ => none }
def blocksStaleRow : OpenClaim := { program := "ytfehonejcambgaadoor", sum := "91a28aa4bb393d194d18d5a8fe5be6146d1ecfc218db3aaf686bb390c1d7ea17", func := "concord/concordlaw02.BlocksStale", spec := "blocksStale", inPlace := ["internal/reflectlite.TypeOf", "internal/reflectlite.ValueOf", "(internal/reflectlite.Value).Type", "(internal/reflectlite.Value).IsNil", "(internal/reflectlite.Value).Elem", "(internal/reflectlite.Value).Set"], unfollowed := true, recurses := true, named := ["errors.errorType"], apart := false, laid := [("errors.errorType", laid_errors_errorType)] }
def BlocksStaleSaid : Prop := blocksStaleRow.holds Tryd.pinned (OpenSpec.ofChange blocksStaleSpec)

/-- ITS FALSE NEIGHBOUR: 'it returns false'. Refute it at one input. -/
def blocksStaleWrong : ChangeSpec := { name := "blocksStale", fn := fun _ => fun
  | [d1, d2] => { results := [.lit (.bool false)], args := [d1, d2] }
  | _ => none }
def BlocksStaleWrongFalsely : Prop := blocksStaleRow.holds Tryd.pinned (OpenSpec.ofChange blocksStaleWrong)

/-- 'concordlaw02.BlocksNil': WHATEVER THE INPUT: true; the input reads as it did. -/
def blocksNilSpec : ChangeSpec := { name := "blocksNil", fn := fun _ => fun
  | [d1, d2, d3] => { results := [.lit (.bool true)], args := [d1, d2, d3] }
  | _ => none }
def blocksNilRow : OpenClaim := { program := "ytfehonejcambgaadoor", sum := "91a28aa4bb393d194d18d5a8fe5be6146d1ecfc218db3aaf686bb390c1d7ea17", func := "concord/concordlaw02.BlocksNil", spec := "blocksNil", inPlace := ["internal/reflectlite.TypeOf", "internal/reflectlite.ValueOf", "(internal/reflectlite.Value).Type", "(internal/reflectlite.Value).IsNil", "(internal/reflectlite.Value).Elem", "(internal/reflectlite.Value).Set"], unfollowed := true, recurses := true, named := ["errors.errorType"], apart := false, laid := [("errors.errorType", laid_errors_errorType)] }
def BlocksNilSaid : Prop := blocksNilRow.holds Tryd.pinned (OpenSpec.ofChange blocksNilSpec)

/-- ITS FALSE NEIGHBOUR: 'it returns false'. Refute it at one input. -/
def blocksNilWrong : ChangeSpec := { name := "blocksNil", fn := fun _ => fun
  | [d1, d2, d3] => { results := [.lit (.bool false)], args := [d1, d2, d3] }
  | _ => none }
def BlocksNilWrongFalsely : Prop := blocksNilRow.holds Tryd.pinned (OpenSpec.ofChange blocksNilWrong)

/- THE SECOND FORM. 'bulk': how many values and letters a reading holds, each counted each time it is reached (what is shared counts as often as it is met; a slice's spare places count too). A statement '..UptoSaid' is the law's where the arguments, and the package variables that the reading takes, are together of bulk at most 1048576: NARROWER than '..Said'. Prove '..Said' where nothing that the law and all that it calls make is longer than what came in: it says more and counts as full. Else prove '..UptoSaid'. A law counts once. -/
mutual
def uptoBulk {H : Type} : DataW H → Nat
  | .lit (.string bytes) => bytes.length + 1
  | .lit _ => 1
  | .nil => 1
  | .ptr d => uptoBulk d + 1
  | .slice elems spare => uptoBulkAll elems + uptoBulkAll spare + 1
  | .agg parts => uptoBulkAll parts + 1
  | .iface _ d => uptoBulk d + 1
  | .map entries => uptoBulkEntries entries + 1
  | .held _ => 1
def uptoBulkAll {H : Type} : List (DataW H) → Nat
  | [] => 0
  | d :: r => uptoBulk d + uptoBulkAll r
def uptoBulkEntries {H : Type} : List (Lit × DataW H) → Nat
  | [] => 0
  | x :: r => uptoBulkEntry x + uptoBulkEntries r
def uptoBulkEntry {H : Type} : Lit × DataW H → Nat
  | (.string bytes, d) => bytes.length + uptoBulk d + 1
  | (_, d) => uptoBulk d + 1
 end
def uptoSmall : (H : Type) → List (DataW H) → Bool := fun _ ds => decide (uptoBulkAll ds ≤ 1048576)
def OpenSpec.upto (s : _root_.Go.ChangeSpec) : _root_.Go.OpenSpec := { _root_.Go.OpenSpec.ofChange s with cond := some uptoSmall }

/-- 'concordlaw05.ThreadNil', WHERE WHAT IT READS IS OF BULK AT MOST 1048576: true; the input reads as it did. -/
def threadNilUptoRow : OpenClaim := { program := "ytfehonejcambgaadoor", sum := "91a28aa4bb393d194d18d5a8fe5be6146d1ecfc218db3aaf686bb390c1d7ea17", func := "concord/concordlaw05.ThreadNil", spec := "threadNil", inPlace := ["internal/reflectlite.TypeOf", "internal/reflectlite.ValueOf", "(internal/reflectlite.Value).Type", "(internal/reflectlite.Value).IsNil", "(internal/reflectlite.Value).Elem", "(internal/reflectlite.Value).Set"], unfollowed := true, recurses := true, named := ["errors.errorType"], apart := false, laid := [("errors.errorType", laid_errors_errorType)], narrowed := true }
def ThreadNilUptoSaid : Prop := threadNilUptoRow.holds Tryd.pinned (OpenSpec.upto threadNilSpec)

/-- 'concordlaw02.BlocksRoom', WHERE WHAT IT READS IS OF BULK AT MOST 1048576: true; the input reads as it did. -/
def blocksRoomUptoRow : OpenClaim := { program := "ytfehonejcambgaadoor", sum := "91a28aa4bb393d194d18d5a8fe5be6146d1ecfc218db3aaf686bb390c1d7ea17", func := "concord/concordlaw02.BlocksRoom", spec := "blocksRoom", inPlace := ["internal/reflectlite.TypeOf", "internal/reflectlite.ValueOf", "(internal/reflectlite.Value).Type", "(internal/reflectlite.Value).IsNil", "(internal/reflectlite.Value).Elem", "(internal/reflectlite.Value).Set"], unfollowed := true, recurses := true, named := ["errors.errorType"], apart := false, laid := [("errors.errorType", laid_errors_errorType)], narrowed := true }
def BlocksRoomUptoSaid : Prop := blocksRoomUptoRow.holds Tryd.pinned (OpenSpec.upto blocksRoomSpec)

/-- 'concordlaw02.BlocksApart', WHERE WHAT IT READS IS OF BULK AT MOST 1048576: true; the input reads as it did. -/
def blocksApartUptoRow : OpenClaim := { program := "ytfehonejcambgaadoor", sum := "91a28aa4bb393d194d18d5a8fe5be6146d1ecfc218db3aaf686bb390c1d7ea17", func := "concord/concordlaw02.BlocksApart", spec := "blocksApart", inPlace := ["internal/reflectlite.TypeOf", "internal/reflectlite.ValueOf", "(internal/reflectlite.Value).Type", "(internal/reflectlite.Value).IsNil", "(internal/reflectlite.Value).Elem", "(internal/reflectlite.Value).Set"], unfollowed := true, recurses := true, named := ["errors.errorType"], apart := false, laid := [("errors.errorType", laid_errors_errorType)], narrowed := true }
def BlocksApartUptoSaid : Prop := blocksApartUptoRow.holds Tryd.pinned (OpenSpec.upto blocksApartSpec)

/-- 'concordlaw02.BlocksStale', WHERE WHAT IT READS IS OF BULK AT MOST 1048576: true; the input reads as it did. -/
def blocksStaleUptoRow : OpenClaim := { program := "ytfehonejcambgaadoor", sum := "91a28aa4bb393d194d18d5a8fe5be6146d1ecfc218db3aaf686bb390c1d7ea17", func := "concord/concordlaw02.BlocksStale", spec := "blocksStale", inPlace := ["internal/reflectlite.TypeOf", "internal/reflectlite.ValueOf", "(internal/reflectlite.Value).Type", "(internal/reflectlite.Value).IsNil", "(internal/reflectlite.Value).Elem", "(internal/reflectlite.Value).Set"], unfollowed := true, recurses := true, named := ["errors.errorType"], apart := false, laid := [("errors.errorType", laid_errors_errorType)], narrowed := true }
def BlocksStaleUptoSaid : Prop := blocksStaleUptoRow.holds Tryd.pinned (OpenSpec.upto blocksStaleSpec)

/-- 'concordlaw02.BlocksNil', WHERE WHAT IT READS IS OF BULK AT MOST 1048576: true; the input reads as it did. -/
def blocksNilUptoRow : OpenClaim := { program := "ytfehonejcambgaadoor", sum := "91a28aa4bb393d194d18d5a8fe5be6146d1ecfc218db3aaf686bb390c1d7ea17", func := "concord/concordlaw02.BlocksNil", spec := "blocksNil", inPlace := ["internal/reflectlite.TypeOf", "internal/reflectlite.ValueOf", "(internal/reflectlite.Value).Type", "(internal/reflectlite.Value).IsNil", "(internal/reflectlite.Value).Elem", "(internal/reflectlite.Value).Set"], unfollowed := true, recurses := true, named := ["errors.errorType"], apart := false, laid := [("errors.errorType", laid_errors_errorType)], narrowed := true }
def BlocksNilUptoSaid : Prop := blocksNilUptoRow.holds Tryd.pinned (OpenSpec.upto blocksNilSpec)

end Rows
end Go.Proofs.YtfehonejcambgaaDoor
