/-
  DERIVED. GIVEN WITH THE SEED: THE CARDS: each row of YthljobcnjigfmaaGreatDoorRows.lean that lists a variable, with what it lists TIED to the program's text (the seventh form; the later family's looks); each row that meets fmt, with fmt's text TOLD by the authors' own Lean function (tested against real Go, not proved from fmt's source: count such statements apart). THE CARD IS WHAT COUNTS. Prove the row's statement (the work); the ties are given (YthljobcnjigfmaaGreatDoorTie.lean); close each card by the builder's one call (the guide's Derived/Test/ToyasCard.lean, 'card_holds'). Laid BY PROGRAM, IN A SANDBOX (cutbox-door.mjs). By AI agents, Wed Nov 11 2026. No macro, syntax, notation, axiom, sorry.
-/
import Derived.Test.YthljobcnjigfmaaGreatDoorRows
import GoSem.ClaimSeven
namespace Go.Proofs.YthljobcnjigfmaaGreatDoor
namespace Rows

/-- THE TIED CARD OF 'concordlaw13.RefNothing'. -/
def refNothingCard : Claim7 := { stood := { row := refNothingRow, standIns := [], harness := (true, "21c95371beb0c07de264066c3ac75b2b1363fb4835dbfa21f4e466d1af390029"), looks := true }, kinds := [], alts := [], laidByText := true, laidKinds := [.handle], laidTests := true, laidLooks := .later }
def RefNothingCardSaid : Prop := Claim7.holds Tryz.pinned (.plain (OpenSpec.ofChange refNothingSpec)) refNothingCard

/-- THE TIED CARD OF 'concordlaw13.RefLocked'. -/
def refLockedCard : Claim7 := { stood := { row := refLockedRow, standIns := [], harness := (true, "21c95371beb0c07de264066c3ac75b2b1363fb4835dbfa21f4e466d1af390029"), looks := true }, kinds := [], alts := [], laidByText := true, laidKinds := [.handle], laidTests := true, laidLooks := .later }
def RefLockedCardSaid : Prop := Claim7.holds Tryz.pinned (.plain (OpenSpec.ofChange refLockedSpec)) refLockedCard

/-- THE TIED CARD OF 'concordlaw13.RefNil'. -/
def refNilCard : Claim7 := { stood := { row := refNilRow, standIns := [], harness := (true, "21c95371beb0c07de264066c3ac75b2b1363fb4835dbfa21f4e466d1af390029"), looks := true }, kinds := [], alts := [], laidByText := true, laidKinds := [.handle], laidTests := true, laidLooks := .later }
def RefNilCardSaid : Prop := Claim7.holds Tryz.pinned (.plain (OpenSpec.ofChange refNilSpec)) refNilCard

/-- THE TIED CARD OF 'concordlaw13.RefAlone'. -/
def refAloneCard : Claim7 := { stood := { row := refAloneRow, standIns := [], harness := (true, "21c95371beb0c07de264066c3ac75b2b1363fb4835dbfa21f4e466d1af390029"), looks := true }, kinds := [], alts := [], laidByText := true, laidKinds := [.handle], laidTests := true, laidLooks := .later }
def RefAloneCardSaid : Prop := Claim7.holds Tryz.pinned (.plain (OpenSpec.ofChange refAloneSpec)) refAloneCard

/-- THE TIED CARD OF 'concordlaw18.CountNil'. -/
def countNilCard : Claim7 := { stood := { row := countNilRow, standIns := [], harness := (true, "21c95371beb0c07de264066c3ac75b2b1363fb4835dbfa21f4e466d1af390029"), looks := true }, kinds := [], alts := [], laidByText := true, laidKinds := [.handle], laidTests := true, laidLooks := .later }
def CountNilCardSaid : Prop := Claim7.holds Tryz.pinned (.plain (OpenSpec.ofChange countNilSpec)) countNilCard

/-- THE TIED CARD OF 'concordlaw18.CountSums'. -/
def countSumsCard : Claim7 := { stood := { row := countSumsRow, standIns := [], harness := (true, "21c95371beb0c07de264066c3ac75b2b1363fb4835dbfa21f4e466d1af390029"), looks := true }, kinds := [], alts := [], laidByText := true, laidKinds := [.handle], laidTests := true, laidLooks := .later }
def CountSumsCardSaid : Prop := Claim7.holds Tryz.pinned (.plain (OpenSpec.ofChange countSumsSpec)) countSumsCard

/-- THE TIED CARD OF 'concordlaw14.TxnNil'. -/
def txnNilCard : Claim7 := { stood := { row := txnNilRow, standIns := [], harness := (true, "21c95371beb0c07de264066c3ac75b2b1363fb4835dbfa21f4e466d1af390029"), looks := true }, kinds := [], alts := [], laidByText := true, laidKinds := [.handle], laidTests := true, laidLooks := .later }
def TxnNilCardSaid : Prop := Claim7.holds Tryz.pinned (.plain (OpenSpec.ofChange txnNilSpec)) txnNilCard

/-- THE TIED CARD OF 'concordlaw14.TxnUndone'. -/
def txnUndoneCard : Claim7 := { stood := { row := txnUndoneRow, standIns := [], harness := (true, "21c95371beb0c07de264066c3ac75b2b1363fb4835dbfa21f4e466d1af390029"), looks := true }, kinds := [], alts := [], laidByText := true, laidKinds := [.handle], laidTests := true, laidLooks := .later }
def TxnUndoneCardSaid : Prop := Claim7.holds Tryz.pinned (.plain (OpenSpec.ofChange txnUndoneSpec)) txnUndoneCard

/-- THE TIED CARD OF 'concordlaw14.TxnWaits'. -/
def txnWaitsCard : Claim7 := { stood := { row := txnWaitsRow, standIns := [], harness := (true, "21c95371beb0c07de264066c3ac75b2b1363fb4835dbfa21f4e466d1af390029"), looks := true }, kinds := [], alts := [], laidByText := true, laidKinds := [.handle], laidTests := true, laidLooks := .later }
def TxnWaitsCardSaid : Prop := Claim7.holds Tryz.pinned (.plain (OpenSpec.ofChange txnWaitsSpec)) txnWaitsCard

/-- THE TIED CARD OF 'concordlaw29.TqueueNil'. -/
def tqueueNilCard : Claim7 := { stood := { row := tqueueNilRow, standIns := [], harness := (true, "21c95371beb0c07de264066c3ac75b2b1363fb4835dbfa21f4e466d1af390029"), looks := true }, kinds := [], alts := [], laidByText := true, laidKinds := [.handle], laidTests := true, laidLooks := .later }
def TqueueNilCardSaid : Prop := Claim7.holds Tryz.pinned (.plain (OpenSpec.ofChange tqueueNilSpec)) tqueueNilCard

/-- THE TIED CARD OF 'concordlaw29.TqueueFull'. -/
def tqueueFullCard : Claim7 := { stood := { row := tqueueFullRow, standIns := [], harness := (true, "21c95371beb0c07de264066c3ac75b2b1363fb4835dbfa21f4e466d1af390029"), looks := true }, kinds := [], alts := [], laidByText := true, laidKinds := [.handle], laidTests := true, laidLooks := .later }
def TqueueFullCardSaid : Prop := Claim7.holds Tryz.pinned (.plain (OpenSpec.ofChange tqueueFullSpec)) tqueueFullCard

/-- THE TIED CARD OF 'concordlaw29.TqueueAlone'. -/
def tqueueAloneCard : Claim7 := { stood := { row := tqueueAloneRow, standIns := [], harness := (true, "21c95371beb0c07de264066c3ac75b2b1363fb4835dbfa21f4e466d1af390029"), looks := true }, kinds := [], alts := [], laidByText := true, laidKinds := [.handle], laidTests := true, laidLooks := .later }
def TqueueAloneCardSaid : Prop := Claim7.holds Tryz.pinned (.plain (OpenSpec.ofChange tqueueAloneSpec)) tqueueAloneCard

/-- THE SECOND FORM's CARD OF 'concordlaw13.RefNothing'. -/
def refNothingUptoCard : Claim7 := { stood := { row := refNothingUptoRow, standIns := [], harness := (true, "21c95371beb0c07de264066c3ac75b2b1363fb4835dbfa21f4e466d1af390029"), looks := true }, kinds := [], alts := [], laidByText := true, laidKinds := [.handle], laidTests := true, laidLooks := .later }
def RefNothingUptoCardSaid : Prop := Claim7.holds Tryz.pinned (.plain (OpenSpec.upto refNothingSpec)) refNothingUptoCard

/-- THE SECOND FORM's CARD OF 'concordlaw13.RefLocked'. -/
def refLockedUptoCard : Claim7 := { stood := { row := refLockedUptoRow, standIns := [], harness := (true, "21c95371beb0c07de264066c3ac75b2b1363fb4835dbfa21f4e466d1af390029"), looks := true }, kinds := [], alts := [], laidByText := true, laidKinds := [.handle], laidTests := true, laidLooks := .later }
def RefLockedUptoCardSaid : Prop := Claim7.holds Tryz.pinned (.plain (OpenSpec.upto refLockedSpec)) refLockedUptoCard

/-- THE SECOND FORM's CARD OF 'concordlaw13.RefNil'. -/
def refNilUptoCard : Claim7 := { stood := { row := refNilUptoRow, standIns := [], harness := (true, "21c95371beb0c07de264066c3ac75b2b1363fb4835dbfa21f4e466d1af390029"), looks := true }, kinds := [], alts := [], laidByText := true, laidKinds := [.handle], laidTests := true, laidLooks := .later }
def RefNilUptoCardSaid : Prop := Claim7.holds Tryz.pinned (.plain (OpenSpec.upto refNilSpec)) refNilUptoCard

/-- THE SECOND FORM's CARD OF 'concordlaw13.RefAlone'. -/
def refAloneUptoCard : Claim7 := { stood := { row := refAloneUptoRow, standIns := [], harness := (true, "21c95371beb0c07de264066c3ac75b2b1363fb4835dbfa21f4e466d1af390029"), looks := true }, kinds := [], alts := [], laidByText := true, laidKinds := [.handle], laidTests := true, laidLooks := .later }
def RefAloneUptoCardSaid : Prop := Claim7.holds Tryz.pinned (.plain (OpenSpec.upto refAloneSpec)) refAloneUptoCard

/-- THE SECOND FORM's CARD OF 'concordlaw18.CountNil'. -/
def countNilUptoCard : Claim7 := { stood := { row := countNilUptoRow, standIns := [], harness := (true, "21c95371beb0c07de264066c3ac75b2b1363fb4835dbfa21f4e466d1af390029"), looks := true }, kinds := [], alts := [], laidByText := true, laidKinds := [.handle], laidTests := true, laidLooks := .later }
def CountNilUptoCardSaid : Prop := Claim7.holds Tryz.pinned (.plain (OpenSpec.upto countNilSpec)) countNilUptoCard

/-- THE SECOND FORM's CARD OF 'concordlaw18.CountSums'. -/
def countSumsUptoCard : Claim7 := { stood := { row := countSumsUptoRow, standIns := [], harness := (true, "21c95371beb0c07de264066c3ac75b2b1363fb4835dbfa21f4e466d1af390029"), looks := true }, kinds := [], alts := [], laidByText := true, laidKinds := [.handle], laidTests := true, laidLooks := .later }
def CountSumsUptoCardSaid : Prop := Claim7.holds Tryz.pinned (.plain (OpenSpec.upto countSumsSpec)) countSumsUptoCard

/-- THE SECOND FORM's CARD OF 'concordlaw14.TxnNil'. -/
def txnNilUptoCard : Claim7 := { stood := { row := txnNilUptoRow, standIns := [], harness := (true, "21c95371beb0c07de264066c3ac75b2b1363fb4835dbfa21f4e466d1af390029"), looks := true }, kinds := [], alts := [], laidByText := true, laidKinds := [.handle], laidTests := true, laidLooks := .later }
def TxnNilUptoCardSaid : Prop := Claim7.holds Tryz.pinned (.plain (OpenSpec.upto txnNilSpec)) txnNilUptoCard

/-- THE SECOND FORM's CARD OF 'concordlaw14.TxnUndone'. -/
def txnUndoneUptoCard : Claim7 := { stood := { row := txnUndoneUptoRow, standIns := [], harness := (true, "21c95371beb0c07de264066c3ac75b2b1363fb4835dbfa21f4e466d1af390029"), looks := true }, kinds := [], alts := [], laidByText := true, laidKinds := [.handle], laidTests := true, laidLooks := .later }
def TxnUndoneUptoCardSaid : Prop := Claim7.holds Tryz.pinned (.plain (OpenSpec.upto txnUndoneSpec)) txnUndoneUptoCard

/-- THE SECOND FORM's CARD OF 'concordlaw14.TxnWaits'. -/
def txnWaitsUptoCard : Claim7 := { stood := { row := txnWaitsUptoRow, standIns := [], harness := (true, "21c95371beb0c07de264066c3ac75b2b1363fb4835dbfa21f4e466d1af390029"), looks := true }, kinds := [], alts := [], laidByText := true, laidKinds := [.handle], laidTests := true, laidLooks := .later }
def TxnWaitsUptoCardSaid : Prop := Claim7.holds Tryz.pinned (.plain (OpenSpec.upto txnWaitsSpec)) txnWaitsUptoCard

/-- THE SECOND FORM's CARD OF 'concordlaw29.TqueueNil'. -/
def tqueueNilUptoCard : Claim7 := { stood := { row := tqueueNilUptoRow, standIns := [], harness := (true, "21c95371beb0c07de264066c3ac75b2b1363fb4835dbfa21f4e466d1af390029"), looks := true }, kinds := [], alts := [], laidByText := true, laidKinds := [.handle], laidTests := true, laidLooks := .later }
def TqueueNilUptoCardSaid : Prop := Claim7.holds Tryz.pinned (.plain (OpenSpec.upto tqueueNilSpec)) tqueueNilUptoCard

/-- THE SECOND FORM's CARD OF 'concordlaw29.TqueueFull'. -/
def tqueueFullUptoCard : Claim7 := { stood := { row := tqueueFullUptoRow, standIns := [], harness := (true, "21c95371beb0c07de264066c3ac75b2b1363fb4835dbfa21f4e466d1af390029"), looks := true }, kinds := [], alts := [], laidByText := true, laidKinds := [.handle], laidTests := true, laidLooks := .later }
def TqueueFullUptoCardSaid : Prop := Claim7.holds Tryz.pinned (.plain (OpenSpec.upto tqueueFullSpec)) tqueueFullUptoCard

/-- THE SECOND FORM's CARD OF 'concordlaw29.TqueueAlone'. -/
def tqueueAloneUptoCard : Claim7 := { stood := { row := tqueueAloneUptoRow, standIns := [], harness := (true, "21c95371beb0c07de264066c3ac75b2b1363fb4835dbfa21f4e466d1af390029"), looks := true }, kinds := [], alts := [], laidByText := true, laidKinds := [.handle], laidTests := true, laidLooks := .later }
def TqueueAloneUptoCardSaid : Prop := Claim7.holds Tryz.pinned (.plain (OpenSpec.upto tqueueAloneSpec)) tqueueAloneUptoCard
end Rows
end Go.Proofs.YthljobcnjigfmaaGreatDoor
