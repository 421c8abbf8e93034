/-
  DERIVED. GIVEN WITH THE SEED: THE CARDS: each row of YtidlloojkpeepaaGreatDoorRows.lean that lists a variable, with what it lists TIED to the program's text (the seventh form; the later family's looks); each row that meets fmt, with fmt's text TOLD by the authors' own Lean function (tested against real Go, not proved from fmt's source: count such statements apart). THE CARD IS WHAT COUNTS. Prove the row's statement (the work); the ties are given (YtidlloojkpeepaaGreatDoorTie.lean); close each card by the builder's one call (the guide's Derived/Test/ToyasCard.lean, 'card_holds'). Laid BY PROGRAM, IN A SANDBOX (cutbox-door.mjs). By AI agents, Wed Nov 11 2026. No macro, syntax, notation, axiom, sorry.
-/
import Derived.Test.YtidlloojkpeepaaGreatDoorRows
import GoSem.ClaimSeven
namespace Go.Proofs.YtidlloojkpeepaaGreatDoor
namespace Rows

/-- THE TIED CARD OF 'concordlaw18.CountNil'. -/
def countNilCard : Claim7 := { stood := { row := countNilRow, standIns := [], harness := (true, "6bf06ff26bc885cea256f89b67a399213ec27416d53b778f58490dce866ccad1"), looks := true }, kinds := [], alts := [], laidByText := true, laidKinds := [.handle], laidTests := true, laidLooks := .later }
def CountNilCardSaid : Prop := Claim7.holds Tryz.pinned (.plain (OpenSpec.ofChange countNilSpec)) countNilCard

/-- THE TIED CARD OF 'concordlaw14.TxnNil'. -/
def txnNilCard : Claim7 := { stood := { row := txnNilRow, standIns := [], harness := (true, "6bf06ff26bc885cea256f89b67a399213ec27416d53b778f58490dce866ccad1"), looks := true }, kinds := [], alts := [], laidByText := true, laidKinds := [.handle], laidTests := true, laidLooks := .later }
def TxnNilCardSaid : Prop := Claim7.holds Tryz.pinned (.plain (OpenSpec.ofChange txnNilSpec)) txnNilCard

/-- THE TIED CARD OF 'concordlaw29.TqueueNil'. -/
def tqueueNilCard : Claim7 := { stood := { row := tqueueNilRow, standIns := [], harness := (true, "6bf06ff26bc885cea256f89b67a399213ec27416d53b778f58490dce866ccad1"), looks := true }, kinds := [], alts := [], laidByText := true, laidKinds := [.handle], laidTests := true, laidLooks := .later }
def TqueueNilCardSaid : Prop := Claim7.holds Tryz.pinned (.plain (OpenSpec.ofChange tqueueNilSpec)) tqueueNilCard

/-- THE TIED CARD OF 'concordlaw16.TrieNil'. -/
def trieNilCard : Claim7 := { stood := { row := trieNilRow, standIns := [], harness := (true, "6bf06ff26bc885cea256f89b67a399213ec27416d53b778f58490dce866ccad1"), looks := true }, kinds := [], alts := [], laidByText := true, laidKinds := [.handle], laidTests := true, laidLooks := .later }
def TrieNilCardSaid : Prop := Claim7.holds Tryz.pinned (.plain (OpenSpec.ofChange trieNilSpec)) trieNilCard

/-- THE TIED CARD OF 'concordlaw17.CellNil'. -/
def cellNilCard : Claim7 := { stood := { row := cellNilRow, standIns := [], harness := (true, "6bf06ff26bc885cea256f89b67a399213ec27416d53b778f58490dce866ccad1"), looks := true }, kinds := [], alts := [], laidByText := true, laidKinds := [.handle], laidTests := true, laidLooks := .later }
def CellNilCardSaid : Prop := Claim7.holds Tryz.pinned (.plain (OpenSpec.ofChange cellNilSpec)) cellNilCard

/-- THE SECOND FORM's CARD OF 'concordlaw18.CountNil'. -/
def countNilUptoCard : Claim7 := { stood := { row := countNilUptoRow, standIns := [], harness := (true, "6bf06ff26bc885cea256f89b67a399213ec27416d53b778f58490dce866ccad1"), looks := true }, kinds := [], alts := [], laidByText := true, laidKinds := [.handle], laidTests := true, laidLooks := .later }
def CountNilUptoCardSaid : Prop := Claim7.holds Tryz.pinned (.plain (OpenSpec.upto countNilSpec)) countNilUptoCard

/-- THE SECOND FORM's CARD OF 'concordlaw14.TxnNil'. -/
def txnNilUptoCard : Claim7 := { stood := { row := txnNilUptoRow, standIns := [], harness := (true, "6bf06ff26bc885cea256f89b67a399213ec27416d53b778f58490dce866ccad1"), looks := true }, kinds := [], alts := [], laidByText := true, laidKinds := [.handle], laidTests := true, laidLooks := .later }
def TxnNilUptoCardSaid : Prop := Claim7.holds Tryz.pinned (.plain (OpenSpec.upto txnNilSpec)) txnNilUptoCard

/-- THE SECOND FORM's CARD OF 'concordlaw29.TqueueNil'. -/
def tqueueNilUptoCard : Claim7 := { stood := { row := tqueueNilUptoRow, standIns := [], harness := (true, "6bf06ff26bc885cea256f89b67a399213ec27416d53b778f58490dce866ccad1"), looks := true }, kinds := [], alts := [], laidByText := true, laidKinds := [.handle], laidTests := true, laidLooks := .later }
def TqueueNilUptoCardSaid : Prop := Claim7.holds Tryz.pinned (.plain (OpenSpec.upto tqueueNilSpec)) tqueueNilUptoCard

/-- THE SECOND FORM's CARD OF 'concordlaw16.TrieNil'. -/
def trieNilUptoCard : Claim7 := { stood := { row := trieNilUptoRow, standIns := [], harness := (true, "6bf06ff26bc885cea256f89b67a399213ec27416d53b778f58490dce866ccad1"), looks := true }, kinds := [], alts := [], laidByText := true, laidKinds := [.handle], laidTests := true, laidLooks := .later }
def TrieNilUptoCardSaid : Prop := Claim7.holds Tryz.pinned (.plain (OpenSpec.upto trieNilSpec)) trieNilUptoCard

/-- THE SECOND FORM's CARD OF 'concordlaw17.CellNil'. -/
def cellNilUptoCard : Claim7 := { stood := { row := cellNilUptoRow, standIns := [], harness := (true, "6bf06ff26bc885cea256f89b67a399213ec27416d53b778f58490dce866ccad1"), looks := true }, kinds := [], alts := [], laidByText := true, laidKinds := [.handle], laidTests := true, laidLooks := .later }
def CellNilUptoCardSaid : Prop := Claim7.holds Tryz.pinned (.plain (OpenSpec.upto cellNilSpec)) cellNilUptoCard
end Rows
end Go.Proofs.YtidlloojkpeepaaGreatDoor
