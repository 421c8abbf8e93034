/-
  DERIVED. GIVEN WITH THE SEED: THE CARDS: each row of YtgpgblaoifpbnaaGreatDoorRows.lean that lists a variable, with what it lists TIED to the program's text (the seventh form; the later family's looks); each row that meets fmt, with fmt's text TOLD by the authors' own Lean function (tested against real Go, not proved from fmt's source: count such statements apart). THE CARD IS WHAT COUNTS. Prove the row's statement (the work); the ties are given (YtgpgblaoifpbnaaGreatDoorTie.lean); close each card by the builder's one call (the guide's Derived/Test/ToyasCard.lean, 'card_holds'). Laid BY PROGRAM, IN A SANDBOX (cutbox-door.mjs). By AI agents, Wed Nov 11 2026. No macro, syntax, notation, axiom, sorry.
-/
import Derived.Test.YtgpgblaoifpbnaaGreatDoorRows
import GoSem.ClaimSeven
namespace Go.Proofs.YtgpgblaoifpbnaaGreatDoor
namespace Rows

/-- THE TIED CARD OF 'concordlaw13.RefLocked'. -/
def refLockedCard : Claim7 := { stood := { row := refLockedRow, standIns := [], harness := (true, "902523cc8eaa1136a6466678b6d400d2c8fabab72cb80ee29387e30e30d9e641"), looks := true }, kinds := [], alts := [], laidByText := true, laidKinds := [.handle], laidTests := true, laidLooks := .later }
def RefLockedCardSaid : Prop := Claim7.holds Tryz.pinned (.plain (OpenSpec.ofChange refLockedSpec)) refLockedCard

/-- THE TIED CARD OF 'concordlaw14.TxnNil'. -/
def txnNilCard : Claim7 := { stood := { row := txnNilRow, standIns := [], harness := (true, "902523cc8eaa1136a6466678b6d400d2c8fabab72cb80ee29387e30e30d9e641"), looks := true }, kinds := [], alts := [], laidByText := true, laidKinds := [.handle], laidTests := true, laidLooks := .later }
def TxnNilCardSaid : Prop := Claim7.holds Tryz.pinned (.plain (OpenSpec.ofChange txnNilSpec)) txnNilCard

/-- THE SECOND FORM's CARD OF 'concordlaw13.RefLocked'. -/
def refLockedUptoCard : Claim7 := { stood := { row := refLockedUptoRow, standIns := [], harness := (true, "902523cc8eaa1136a6466678b6d400d2c8fabab72cb80ee29387e30e30d9e641"), looks := true }, kinds := [], alts := [], laidByText := true, laidKinds := [.handle], laidTests := true, laidLooks := .later }
def RefLockedUptoCardSaid : Prop := Claim7.holds Tryz.pinned (.plain (OpenSpec.upto refLockedSpec)) refLockedUptoCard

/-- THE SECOND FORM's CARD OF 'concordlaw14.TxnNil'. -/
def txnNilUptoCard : Claim7 := { stood := { row := txnNilUptoRow, standIns := [], harness := (true, "902523cc8eaa1136a6466678b6d400d2c8fabab72cb80ee29387e30e30d9e641"), looks := true }, kinds := [], alts := [], laidByText := true, laidKinds := [.handle], laidTests := true, laidLooks := .later }
def TxnNilUptoCardSaid : Prop := Claim7.holds Tryz.pinned (.plain (OpenSpec.upto txnNilSpec)) txnNilUptoCard
end Rows
end Go.Proofs.YtgpgblaoifpbnaaGreatDoor
